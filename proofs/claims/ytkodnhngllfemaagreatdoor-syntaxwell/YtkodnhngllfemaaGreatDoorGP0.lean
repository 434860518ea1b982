import Derived.Test.YtkodnhngllfemaaGreatDoorE0
import Derived.Test.YtkodnhngllfemaaGreatDoorProg
import Derived.Test.YtkodnhngllfemaaGreatDoorGF
import Derived.Test.YtkodnhngllfemaaGreatDoorGM
set_option linter.unusedVariables false
set_option linter.unusedSimpArgs false
set_option maxRecDepth 20000
set_option maxHeartbeats 4000000
namespace Go.Proofs.YtkodnhngllfemaaGreatDoor
open Go
abbrev b'0 : ByteArray := ⟨#[100, 101, 108, 97, 121]⟩
abbrev b'1 : ByteArray := ⟨#[100, 105, 118]⟩
abbrev b'2 : ByteArray := ⟨#[100, 111]⟩
abbrev b'3 : ByteArray := ⟨#[101, 108, 115, 101]⟩
abbrev b'4 : ByteArray := ⟨#[101, 108, 115, 105, 102]⟩
abbrev b'5 : ByteArray := ⟨#[101, 110, 100, 95, 102, 111, 114]⟩
abbrev b'6 : ByteArray := ⟨#[101, 110, 100, 95, 105, 102]⟩
abbrev b'7 : ByteArray := ⟨#[101, 110, 100, 95, 114, 101, 112, 101, 97, 116]⟩
abbrev b'8 : ByteArray := ⟨#[101, 110, 100, 95, 119, 104, 105, 108, 101]⟩
abbrev b'9 : ByteArray := ⟨#[101, 110, 100, 95, 99, 97, 115, 101]⟩
abbrev b'10 : ByteArray := ⟨#[101, 110, 100]⟩
abbrev b'11 : ByteArray := ⟨#[101, 110, 116, 101, 114]⟩
abbrev b'12 : ByteArray := ⟨#[101, 113]⟩
abbrev b'13 : ByteArray := ⟨#[101, 118, 101, 114, 121]⟩
abbrev b'14 : ByteArray := ⟨#[101, 120, 105, 116]⟩
abbrev b'15 : ByteArray := ⟨#[102, 111, 114]⟩
abbrev b'16 : ByteArray := ⟨#[102, 114, 111, 109]⟩
abbrev b'17 : ByteArray := ⟨#[102, 117, 110, 99, 116, 105, 111, 110]⟩
abbrev b'18 : ByteArray := ⟨#[102, 97, 108, 108]⟩
abbrev b'19 : ByteArray := ⟨#[102, 97, 108, 115, 101]⟩
abbrev b'20 : ByteArray := ⟨#[102, 98, 100]⟩
abbrev b'21 : ByteArray := ⟨#[103, 101]⟩
abbrev b'22 : ByteArray := ⟨#[103, 116]⟩
abbrev b'23 : ByteArray := ⟨#[105, 102]⟩
abbrev b'24 : ByteArray := ⟨#[105, 108]⟩
abbrev b'25 : ByteArray := ⟨#[105, 110, 105, 116, 105, 97, 108]⟩
abbrev b'26 : ByteArray := ⟨#[105, 110, 112, 117, 116]⟩
abbrev b'27 : ByteArray := ⟨#[105, 110, 116]⟩
abbrev b'28 : ByteArray := ⟨#[106, 109, 112, 99, 110]⟩
abbrev b'29 : ByteArray := ⟨#[106, 109, 112, 99]⟩
abbrev b'30 : ByteArray := ⟨#[106, 109, 112]⟩
abbrev b'31 : ByteArray := ⟨#[106, 117, 109, 112]⟩
abbrev b'32 : ByteArray := ⟨#[108, 100, 110]⟩
abbrev b'33 : ByteArray := ⟨#[108, 100]⟩
abbrev b'34 : ByteArray := ⟨#[108, 101, 97, 118, 101]⟩
abbrev b'35 : ByteArray := ⟨#[108, 101]⟩
abbrev b'36 : ByteArray := ⟨#[108, 105, 109, 105, 116, 95]⟩
abbrev b'37 : ByteArray := ⟨#[108, 111, 99, 97, 108]⟩
abbrev b'38 : ByteArray := ⟨#[108, 116]⟩
abbrev b'39 : ByteArray := ⟨#[109, 111, 100]⟩
abbrev b'40 : ByteArray := ⟨#[109, 117, 108]⟩
abbrev b'41 : ByteArray := ⟨#[109, 97, 99, 114, 111]⟩
abbrev b'42 : ByteArray := ⟨#[110, 101]⟩
abbrev b'43 : ByteArray := ⟨#[110, 111, 116]⟩
abbrev b'44 : ByteArray := ⟨#[111, 102]⟩
abbrev b'45 : ByteArray := ⟨#[111, 114, 110]⟩
abbrev b'46 : ByteArray := ⟨#[111, 114]⟩
abbrev b'47 : ByteArray := ⟨#[111, 117, 116, 112, 117, 116]⟩
abbrev b'48 : ByteArray := ⟨#[112, 104, 97, 115, 101]⟩
abbrev b'49 : ByteArray := ⟨#[112, 114, 105, 111, 114, 105, 116, 121]⟩
abbrev b'50 : ByteArray := ⟨#[112, 114, 111, 103, 114, 97, 109]⟩
abbrev b'51 : ByteArray := ⟨#[114, 101, 112, 101, 97, 116]⟩
abbrev b'52 : ByteArray := ⟨#[114, 101, 115, 101, 116]⟩
abbrev b'53 : ByteArray := ⟨#[114, 101, 116, 117, 114, 110]⟩
abbrev b'54 : ByteArray := ⟨#[114, 101, 116, 97, 105, 110]⟩
abbrev b'55 : ByteArray := ⟨#[114, 101, 116, 99, 110]⟩
abbrev b'56 : ByteArray := ⟨#[114, 101, 116, 99]⟩
abbrev b'57 : ByteArray := ⟨#[114, 101, 116]⟩
abbrev b'58 : ByteArray := ⟨#[114, 105, 115, 101]⟩
abbrev b'59 : ByteArray := ⟨#[114, 117, 110, 103]⟩
abbrev b'60 : ByteArray := ⟨#[114, 117, 110]⟩
abbrev b'61 : ByteArray := ⟨#[115, 101, 116]⟩
abbrev b'62 : ByteArray := ⟨#[115, 102, 99]⟩
abbrev b'63 : ByteArray := ⟨#[115, 116, 101, 112]⟩
abbrev b'64 : ByteArray := ⟨#[115, 116, 110]⟩
abbrev b'65 : ByteArray := ⟨#[115, 116]⟩
abbrev b'66 : ByteArray := ⟨#[115, 117, 98]⟩
abbrev b'67 : ByteArray := ⟨#[116, 104, 101, 110]⟩
abbrev b'68 : ByteArray := ⟨#[116, 105, 109, 101]⟩
abbrev b'69 : ByteArray := ⟨#[116, 111]⟩
abbrev b'70 : ByteArray := ⟨#[116, 114, 117, 101]⟩
abbrev b'71 : ByteArray := ⟨#[116, 114, 97, 110, 115, 105, 116, 105, 111, 110]⟩
abbrev b'72 : ByteArray := ⟨#[116, 35]⟩
abbrev b'73 : ByteArray := ⟨#[116, 97, 115, 107]⟩
abbrev b'74 : ByteArray := ⟨#[117, 110, 116, 105, 108]⟩
abbrev b'75 : ByteArray := ⟨#[119, 104, 101, 110]⟩
abbrev b'76 : ByteArray := ⟨#[119, 104, 105, 108, 101]⟩
abbrev b'77 : ByteArray := ⟨#[120, 111, 114, 110]⟩
abbrev b'78 : ByteArray := ⟨#[120, 111, 114]⟩
abbrev b'79 : ByteArray := ⟨#[40]⟩
abbrev b'80 : ByteArray := ⟨#[41]⟩
abbrev b'81 : ByteArray := ⟨#[42]⟩
abbrev b'82 : ByteArray := ⟨#[43]⟩
abbrev b'83 : ByteArray := ⟨#[44]⟩
abbrev b'84 : ByteArray := ⟨#[45]⟩
abbrev b'85 : ByteArray := ⟨#[46]⟩
abbrev b'86 : ByteArray := ⟨#[47]⟩
abbrev b'87 : ByteArray := ⟨#[58, 61]⟩
abbrev b'88 : ByteArray := ⟨#[58]⟩
abbrev b'89 : ByteArray := ⟨#[59]⟩
abbrev b'90 : ByteArray := ⟨#[60, 61]⟩
abbrev b'91 : ByteArray := ⟨#[60, 62]⟩
abbrev b'92 : ByteArray := ⟨#[60]⟩
abbrev b'93 : ByteArray := ⟨#[61]⟩
abbrev b'94 : ByteArray := ⟨#[62, 61]⟩
abbrev b'95 : ByteArray := ⟨#[62]⟩
abbrev b'96 : ByteArray := ⟨#[91]⟩
abbrev b'97 : ByteArray := ⟨#[93]⟩
abbrev b'98 : ByteArray := ⟨#[97, 100, 100]⟩
abbrev b'99 : ByteArray := ⟨#[97, 110, 100, 110]⟩
abbrev b'100 : ByteArray := ⟨#[97, 110, 100]⟩
abbrev b'101 : ByteArray := ⟨#[97, 116]⟩
abbrev b'102 : ByteArray := ⟨#[98, 108, 111, 99, 107]⟩
abbrev b'103 : ByteArray := ⟨#[98, 111, 111, 108]⟩
abbrev b'104 : ByteArray := ⟨#[98, 111, 120]⟩
abbrev b'105 : ByteArray := ⟨#[98, 121]⟩
abbrev b'106 : ByteArray := ⟨#[99, 97, 108, 99, 110]⟩
abbrev b'107 : ByteArray := ⟨#[99, 97, 108, 99]⟩
abbrev b'108 : ByteArray := ⟨#[99, 97, 108]⟩
abbrev b'109 : ByteArray := ⟨#[99, 97, 115, 101]⟩
abbrev b'110 : ByteArray := ⟨#[]⟩
def C_law02_weighExprs (φ : (List Ex) → Int → Option Int) : Prop := ∀ ⦃xs1 : List Ex⦄ ⦃x4 : Int⦄ ⦃r : Int⦄, φ xs1 x4 = some r → ∀ ⦃w0 : World⦄ ⦃h0 : Hp⦄ ⦃v2 : Value⦄, Sub h0 w0 → RS h0 v2 xs1 →
  Calls Tryz.prog 26 #[v2, .int .i64 x4] w0 fun e w1 => ∃ v, e = .returned v ∧ ∃ h1, Stp [] w0 h0 w1 h1 ∧ v = .int .i64 r
theorem s_law02_weighExprs (k : Nat) (IH : ∀ j, j ≤ k → C_law02_weighExprs (tie_law02_weighExprs j).law02_weighExprs) : C_law02_weighExprs (m_law02_weighExprs k (tie_law02_weighExprs k)) := by
 intro xs1 x4 r HF w0 h0 v2 hs0 rs3
 have S0 : Stp [] w0 h0 w0 h0 := Stp.refl hs0 _
 refine enter (n := 32) Tryz.func26 rfl Tryz.ntmps26 rfl [(0, v2), (1, vi x4)] rfl <| WC.seq <| WC.region <| Wa rfl rfl <| WL.nil <| WQ.seqN <| WC.join (fun E w7 => ∃ (h6 : Hp), law02_weighExprs_j1 k (tie_law02_weighExprs k) xs1 x4 = some r ∧ E = [(0, v2), (1, vi x4)] ∧ Stp [] w0 h0 w7 h6 ∧ Hle h0 h6) ?_ ?_
 ·rintro E w7 ⟨h6, HF, rfl, S9, le8⟩
  refine WC.seq <| WC.region <| Wm rfl rfl ?_
  obtain ⟨A10, c11, rfl, rs12⟩ := RS.form (rs3.mono (le8))
  refine Wv rfl (ov_lenL rfl t_slice_45) <| Wa rfl rfl <| WL.nil <| WQ.seqN <| WC.seq <| WC.seq <| WC.region <| Wa rfl rfl <| WL.nil <| WQ.seqN <| WC.block <| WC.loop <| WP.to [0, 1, 5, 6] [(0, .slice A10 (xs1).length c11), (1, vi x4), (5, vi (xs1.length : Int)), (6, vi 0)] rfl <| WP_rule (K := k) (fun j E w14 => ∃ (h13 : Hp) (x17 : Int) (x18 : Int), (tie_law02_weighExprs j).law02_weighExprs_l2 xs1 x4 x17 x18 = some r ∧ E = [(0, .slice A10 (xs1).length c11), (1, vi x4), (5, vi x17), (6, vi x18)] ∧ Stp [] w0 h0 w14 h13 ∧ Hle h6 h13) ?_ ?_ (j := k) (Nat.le_refl _) ?_
  ·rintro E w14 ⟨_, _, _, HF, _⟩; cases HF
  ·rintro j19 hj21 IHL20 E w14 ⟨h13, x17, x18, HF, rfl, S16, le15⟩
   refine WC.join (fun E w31 => ∃ (h30 : Hp), law02_weighExprs_j4 j19 (tie_law02_weighExprs j19) xs1 x4 x17 x18 = some r ∧ E = [(0, .slice A10 (xs1).length c11), (1, vi x4), (5, vi x17), (6, vi x18)] ∧ Stp [] w0 h0 w31 h30 ∧ Hle h13 h30) ?_ ?_
   ·rintro E w31 ⟨h30, HF, rfl, S33, le32⟩
    refine WC.seq <| WC.block <| WC.region <| Wm rfl rfl <| Wm rfl rfl <| Wm rfl rfl ?_
    obtain ⟨e34, he35, HF⟩ := bind_some HF
    obtain ⟨b36, o37, rfl, h39, h40, ra38⟩ := RS.atO (rs12.mono ((le15).trans le32)) he35
    obtain ⟨cs41, r42, hc43⟩ := ra38
    refine Wv rfl (ov_indexAddr rfl rfl t_slice_45 t_size_47 h39 h40) <| Wv rfl (ov_fieldAddr rfl t_field_47_5) ?_
    obtain ⟨v44, rfl, rs45⟩ := rp_Ex.1 r42
    refine Wv rfl (ov_load1 rfl t_agg_45 (S33.sub.at_ _ _ _ (hc43 5 _ rfl))) <| Wm rfl rfl <| Wv rfl (ov_add rfl rfl) ?_
    obtain ⟨r46, hr47, HF⟩ := bind_some HF
    refine Wc rfl (oc_func (vs := [v44, vi (IntKind.i64.wrap (x4 + 1))]) rfl t_ent_26) ((IH _ (Nat.le_trans (Nat.le_of_succ_le hj21) (Nat.le_refl _))) hr47 S33.sub rs45) ?_
    rintro _ w49 ⟨h50, s51, rfl⟩
    have S52 := S33.trans0 s51
    refine Wv rfl (ov_add rfl rfl) <| Wa rfl rfl <| WL.nil <| WQ.blockN <| WQ.seqN <| WC.region <| Wm rfl rfl <| Wv rfl (ov_add rfl rfl) <| Wa rfl rfl <| WL.nil <| WQ.loopN <| WP.to [0, 1, 5, 6] [(0, sl b36 o37 (xs1).length c11), (1, vi x4), (5, vi (IntKind.i64.wrap (x17 + r46))), (6, vi (IntKind.i64.wrap (x18 + 1)))] rfl ?_
    exact IHL20 j19 (Nat.le_refl _) _ _ ⟨h50, IntKind.i64.wrap (x17 + r46), IntKind.i64.wrap (x18 + 1), HF, rfl, S52, (le15).trans ((le32).trans s51.le)⟩
   intro J53
   refine WC.join (fun E w24 => ∃ (h23 : Hp) (x27 : Bool), law02_weighExprs_j3 j19 (tie_law02_weighExprs j19) xs1 x4 x17 x18 x27 = some r ∧ E = [(0, .slice A10 (xs1).length c11), (1, vi x4), (5, vi x17), (6, vi x18), (18, .bool x27)] ∧ Stp [] w0 h0 w24 h23 ∧ Hle h13 h23) ?_ ?_
   ·rintro E w24 ⟨h23, x27, HF, rfl, S26, le25⟩
    refine WC.cF HF rfl (fun HF => ?_) (fun HF => ?_)
    ·refine WC.skip <| WC.to [0, 1, 5, 6] _ rfl ?_
     exact J53 ⟨h23, HF, rfl, S26, le25⟩
    refine WC.exit <| WQ.thenExit <| WQ.thenExit <| WQ.blockHit <| WQ.seqN <| WC.seq <| WC.region <| Wm rfl rfl <| Wa rfl rfl <| WL.nil <| WQ.seqN <| WC.ret <| WQ.ret1 rfl rfl ?_
    obtain rfl := Option.some.inj HF
    exact ⟨_, rfl, h23, S26, rfl⟩
   intro J29
   refine WC.region <| Wm rfl rfl <| Wm rfl rfl <| Wv rfl (ov_lenL rfl t_slice_45) <| Wv rfl (ov_lss rfl rfl) <| Wm rfl rfl <| WL.sF 15 HF rfl (fun HF => ?_) (fun HF => ?_)
   ·refine Wm rfl rfl <| Wv rfl (ov_leq rfl rfl) <| Wv rfl (ov_pickT rfl rfl) <| WL.nil <| WC.to [0, 1, 5, 6, 18] _ rfl ?_
    exact J29 ⟨h13, decide ((x17 : Int) ≤ 2000), HF, rfl, S16, Hle.refl _⟩
   refine Wp rfl <| Wp rfl <| Wv rfl (ov_pickF rfl rfl) <| WL.nil <| WC.to [0, 1, 5, 6, 18] _ rfl ?_
   exact J29 ⟨h13, false, HF, rfl, S16, Hle.refl _⟩
  exact ⟨h6, (xs1.length : Int), 0, HF, rfl, S9, Hle.refl _⟩
 intro J54
 refine WC.seq <| WC.region <| Wm rfl rfl <| Wv rfl (ov_gtr rfl rfl) <| WL.nil <| WQ.seqN <| WC.cF HF rfl (fun HF => ?_) (fun HF => ?_)
 ·refine WC.seq <| WC.region <| Wa rfl rfl <| WL.nil <| WQ.seqN <| WC.ret <| WQ.thenRet <| WQ.ret1 rfl rfl ?_
  obtain rfl := Option.some.inj HF
  exact ⟨_, rfl, h0, S0, rfl⟩
 refine WC.skip <| WC.to [0, 1] _ rfl ?_
 exact J54 ⟨h0, HF, rfl, S0, Hle.refl _⟩
theorem all_law02_weighExprs : ∀ k j, j ≤ k → C_law02_weighExprs (tie_law02_weighExprs j).law02_weighExprs := by
  intro k
  induction k with
  | zero =>
    intro j hj
    obtain rfl : j = 0 := by omega
    exact (fun _ _ _ => by intro h; cases h)
  | succ k ih =>
    intro j hj
    by_cases h : j ≤ k
    · exact ih j h
    · obtain rfl : j = k + 1 := by omega
      exact s_law02_weighExprs k ih
theorem ok_law02_weighExprs (k : Nat) : C_law02_weighExprs (F_law02_weighExprs k) := (all_law02_weighExprs k k (Nat.le_refl _))

def C_ref02_Size_Right (φ : Int → Int → Bool → Bool → Option Bool) : Prop := ∀ ⦃x3 : Int⦄ ⦃x4 : Int⦄ ⦃x5 : Bool⦄ ⦃x7 : Bool⦄ ⦃r : Bool⦄, φ x3 x4 x5 x7 = some r → ∀ ⦃w0 : World⦄ ⦃h0 : Hp⦄ ⦃b1 : Nat⦄ ⦃T2 : Nat⦄, Sub h0 w0 → OB w0 h0 b1 T2 [.int .i64 x3, .int .i64 x4, .bool x5] →
  Calls Tryz.prog 83 #[.pointer (some ⟨b1, 0, none⟩), .bool x7] w0 fun e w1 => ∃ v, e = .returned v ∧ ∃ h1, Stp [b1] w0 h0 w1 h1 ∧ v = .tuple #[] ∧ (OB w1 h1 b1 T2 [.int .i64 x3, .int .i64 x4, .bool r])
theorem s_ref02_Size_Right (k : Nat) : C_ref02_Size_Right (F_ref02_Size_Right k) := by
 intro x3 x4 x5 x7 r HF w0 h0 b1 T2 hs0 ob6
 have S0 : Stp [b1] w0 h0 w0 h0 := Stp.refl hs0 _
 have lt8 : b1 < w0.heap.size := OB.lt ob6
 refine enter (n := 9) Tryz.func83 rfl Tryz.ntmps83 rfl [(0, pt b1 0), (1, .bool x7)] rfl <| WC.seq <| WC.region <| Wm rfl rfl <| Wv rfl (ov_not rfl) <| WL.nil <| WQ.seqN <| WC.cF HF rfl (fun HF => ?_) (fun HF => ?_)
 ·refine WC.region <| Wm rfl rfl <| Wv rfl (ov_nilCheck rfl) <| Wv rfl (ov_fieldAddr rfl t_field_43_2) <| WL.store (vs := [.bool true]) rfl rfl rfl rfl t_size_4 (one_cons rfl one_nil) ob6 S0.sub (by simp) (ds := [vi x3, vi x4, .bool true]) rfl (fun w10 s11 ob12 => ?_)
  have S13 := S0.trans1 s11 (.inl (by simp))
  refine WL.nil <| WQ.end0 rfl ?_
  obtain rfl := Option.some.inj HF
  exact ⟨_, rfl, h0, S13, rfl, ob12⟩
 refine WC.skip <| WQ.end0 rfl ?_
 obtain rfl := Option.some.inj HF
 exact ⟨_, rfl, h0, S0, rfl, ob6⟩
theorem ok_ref02_Size_Right (k : Nat) : C_ref02_Size_Right (F_ref02_Size_Right k) := s_ref02_Size_Right k

def C_ref01_letter (φ : Int → Option Bool) : Prop := ∀ ⦃x1 : Int⦄ ⦃r : Bool⦄, φ x1 = some r → ∀ ⦃w0 : World⦄ ⦃h0 : Hp⦄, Sub h0 w0 →
  Calls Tryz.prog 141 #[.int .u8 x1] w0 fun e w1 => ∃ v, e = .returned v ∧ ∃ h1, Stp [] w0 h0 w1 h1 ∧ v = .bool r
theorem s_ref01_letter (k : Nat) : C_ref01_letter (F_ref01_letter k) := by
 intro x1 r HF w0 h0  hs0 
 have S0 : Stp [] w0 h0 w0 h0 := Stp.refl hs0 _
 refine enter (n := 9) Tryz.func141 rfl Tryz.ntmps141 rfl [(0, .int .u8 x1)] rfl <| WC.seq <| WC.region <| Wa rfl rfl <| WL.nil <| WQ.seqN <| WC.seq <| WC.region <| Wm rfl rfl <| Wv rfl (ov_geq rfl rfl) <| Wm rfl rfl <| WL.sF 5 HF rfl (fun HF => ?_) (fun HF => ?_)
 ·refine Wm rfl rfl <| Wv rfl (ov_leq rfl rfl) <| Wv rfl (ov_pickT rfl rfl) <| Wa rfl rfl <| WL.nil <| WQ.seqN <| WC.ret <| WQ.ret1 rfl rfl ?_
  obtain rfl := Option.some.inj HF
  exact ⟨_, rfl, h0, S0, rfl⟩
 refine Wp rfl <| Wp rfl <| Wv rfl (ov_pickF rfl rfl) <| Wa rfl rfl <| WL.nil <| WQ.seqN <| WC.ret <| WQ.ret1 rfl rfl ?_
 obtain rfl := Option.some.inj HF
 exact ⟨_, rfl, h0, S0, rfl⟩
theorem ok_ref01_letter (k : Nat) : C_ref01_letter (F_ref01_letter k) := s_ref01_letter k

def C_ref01_digit (φ : Int → Option Bool) : Prop := ∀ ⦃x1 : Int⦄ ⦃r : Bool⦄, φ x1 = some r → ∀ ⦃w0 : World⦄ ⦃h0 : Hp⦄, Sub h0 w0 →
  Calls Tryz.prog 142 #[.int .u8 x1] w0 fun e w1 => ∃ v, e = .returned v ∧ ∃ h1, Stp [] w0 h0 w1 h1 ∧ v = .bool r
theorem s_ref01_digit (k : Nat) : C_ref01_digit (F_ref01_digit k) := by
 intro x1 r HF w0 h0  hs0 
 have S0 : Stp [] w0 h0 w0 h0 := Stp.refl hs0 _
 refine enter (n := 9) Tryz.func142 rfl Tryz.ntmps142 rfl [(0, .int .u8 x1)] rfl <| WC.seq <| WC.region <| Wa rfl rfl <| WL.nil <| WQ.seqN <| WC.seq <| WC.region <| Wm rfl rfl <| Wv rfl (ov_geq rfl rfl) <| Wm rfl rfl <| WL.sF 5 HF rfl (fun HF => ?_) (fun HF => ?_)
 ·refine Wm rfl rfl <| Wv rfl (ov_leq rfl rfl) <| Wv rfl (ov_pickT rfl rfl) <| Wa rfl rfl <| WL.nil <| WQ.seqN <| WC.ret <| WQ.ret1 rfl rfl ?_
  obtain rfl := Option.some.inj HF
  exact ⟨_, rfl, h0, S0, rfl⟩
 refine Wp rfl <| Wp rfl <| Wv rfl (ov_pickF rfl rfl) <| Wa rfl rfl <| WL.nil <| WQ.seqN <| WC.ret <| WQ.ret1 rfl rfl ?_
 obtain rfl := Option.some.inj HF
 exact ⟨_, rfl, h0, S0, rfl⟩
theorem ok_ref01_digit (k : Nat) : C_ref01_digit (F_ref01_digit k) := s_ref01_digit k

def C_ref01_has (φ : (List ByteArray) → ByteArray → Option Bool) : Prop := ∀ ⦃xs1 : List ByteArray⦄ ⦃x4 : ByteArray⦄ ⦃r : Bool⦄, φ xs1 x4 = some r → ∀ ⦃w0 : World⦄ ⦃h0 : Hp⦄ ⦃v2 : Value⦄, Sub h0 w0 → RS h0 v2 xs1 →
  Calls Tryz.prog 177 #[v2, .string x4] w0 fun e w1 => ∃ v, e = .returned v ∧ ∃ h1, Stp [] w0 h0 w1 h1 ∧ v = .bool r
theorem s_ref01_has (k : Nat) (IH : ∀ j, j ≤ k → C_ref01_has (tie_ref01_has j).ref01_has) : C_ref01_has (m_ref01_has k (tie_ref01_has k)) := by
 intro xs1 x4 r HF w0 h0 v2 hs0 rs3
 have S0 : Stp [] w0 h0 w0 h0 := Stp.refl hs0 _
 refine enter (n := 18) Tryz.func177 rfl Tryz.ntmps177 rfl [(0, v2), (1, .string x4)] rfl <| WC.seq <| WC.region <| Wa rfl rfl <| WL.nil <| WQ.seqN <| WC.seq <| WC.seq <| WC.region <| Wa rfl rfl <| WL.nil <| WQ.seqN <| WC.block <| WC.loop <| WP.to [0, 1, 5] [(0, v2), (1, .string x4), (5, vi 0)] rfl <| WP_rule (K := k) (fun j E w6 => ∃ (h5 : Hp) (x9 : Int), (tie_ref01_has j).ref01_has_l1 xs1 x4 x9 = some r ∧ E = [(0, v2), (1, .string x4), (5, vi x9)] ∧ Stp [] w0 h0 w6 h5 ∧ Hle h0 h5) ?_ ?_ (j := k) (Nat.le_refl _) ?_
 ·rintro E w6 ⟨_, _, HF, _⟩; cases HF
 ·rintro j10 hj12 IHL11 E w6 ⟨h5, x9, HF, rfl, S8, le7⟩
  refine WC.join (fun E w18 => ∃ (h17 : Hp), ref01_has_j2 j10 (tie_ref01_has j10) xs1 x4 x9 = some r ∧ E = [(0, v2), (1, .string x4), (5, vi x9)] ∧ Stp [] w0 h0 w18 h17 ∧ Hle h5 h17) ?_ ?_
  ·rintro E w18 ⟨h17, HF, rfl, S20, le19⟩
   refine WC.join (fun E w36 => ∃ (h35 : Hp), ref01_has_j3 j10 (tie_ref01_has j10) xs1 x4 x9 = some r ∧ E = [(0, v2), (1, .string x4), (5, vi x9)] ∧ Stp [] w0 h0 w36 h35 ∧ Hle h17 h35) ?_ ?_
   ·rintro E w36 ⟨h35, HF, rfl, S38, le37⟩
    refine WC.region <| Wm rfl rfl <| Wv rfl (ov_add rfl rfl) <| Wa rfl rfl <| WL.nil <| WQ.loopN <| WP.to [0, 1, 5] [(0, v2), (1, .string x4), (5, vi (IntKind.i64.wrap (x9 + 1)))] rfl ?_
    exact IHL11 j10 (Nat.le_refl _) _ _ ⟨h35, IntKind.i64.wrap (x9 + 1), HF, rfl, S38, (le7).trans ((le19).trans le37)⟩
   intro J39
   refine WC.block <| WC.seq <| WC.region <| Wm rfl rfl <| Wm rfl rfl ?_
   obtain ⟨A21, c22, rfl, rs23⟩ := RS.form (rs3.mono ((le7).trans le19))
   obtain ⟨e24, he25, HF⟩ := bind_some HF
   obtain ⟨b26, o27, rfl, h29, h30, ra28⟩ := RS.atO rs23 he25
   obtain ⟨cs31, r32, hc33⟩ := ra28
   obtain rfl := (show cs31 = _ from r32)
   refine Wv rfl (ov_indexAddr rfl rfl t_slice_53 t_size_9 h29 h30) <| Wv rfl (ov_load1 rfl t_agg_9 (S20.sub.at_ _ _ _ (hc33 0 _ rfl))) <| Wm rfl rfl <| Wv rfl (ov_eqlS rfl rfl) <| WL.nil <| WQ.seqN <| WC.cF HF rfl (fun HF => ?_) (fun HF => ?_)
   ·refine WC.seq <| WC.region <| Wa rfl rfl <| WL.nil <| WQ.seqN <| WC.ret <| WQ.blockRet <| WQ.thenRet <| WQ.thenRet <| WQ.blockRet <| WQ.thenRet <| WQ.ret1 rfl rfl ?_
    obtain rfl := Option.some.inj HF
    exact ⟨_, rfl, h17, S20, rfl⟩
   refine WC.skip <| WQ.blockN <| WC.to [0, 1, 5] _ rfl ?_
   exact J39 ⟨h17, HF, rfl, S20, Hle.refl _⟩
  intro J40
  refine WC.seq <| WC.region <| Wm rfl rfl <| Wm rfl rfl ?_
  obtain ⟨A13, c14, rfl, rs15⟩ := RS.form (rs3.mono (le7))
  refine Wv rfl (ov_lenL rfl t_slice_53) <| Wv rfl (ov_lss rfl rfl) <| WL.nil <| WQ.seqN <| WC.cF HF rfl (fun HF => ?_) (fun HF => ?_)
  ·refine WC.skip <| WC.to [0, 1, 5] _ rfl ?_
   exact J40 ⟨h5, HF, rfl, S8, Hle.refl _⟩
  refine WC.exit <| WQ.thenExit <| WQ.thenExit <| WQ.blockHit <| WQ.seqN <| WC.seq <| WC.region <| Wa rfl rfl <| WL.nil <| WQ.seqN <| WC.ret <| WQ.ret1 rfl rfl ?_
  obtain rfl := Option.some.inj HF
  exact ⟨_, rfl, h5, S8, rfl⟩
 exact ⟨h0, 0, HF, rfl, S0, Hle.refl _⟩
theorem all_ref01_has : ∀ k j, j ≤ k → C_ref01_has (tie_ref01_has j).ref01_has := by
  intro k
  induction k with
  | zero =>
    intro j hj
    obtain rfl : j = 0 := by omega
    exact (fun _ _ _ => by intro h; cases h)
  | succ k ih =>
    intro j hj
    by_cases h : j ≤ k
    · exact ih j h
    · obtain rfl : j = k + 1 := by omega
      exact s_ref01_has k ih
theorem ok_ref01_has (k : Nat) : C_ref01_has (F_ref01_has k) := (all_ref01_has k k (Nat.le_refl _))

def C_ref01_Words (φ : Option (List ByteArray)) : Prop := ∀ ⦃r : List ByteArray⦄, φ  = some r → ∀ ⦃w0 : World⦄ ⦃h0 : Hp⦄, Sub h0 w0 →
  Calls Tryz.prog 178 #[] w0 fun e w1 => ∃ v, e = .returned v ∧ ∃ h1, Stp [] w0 h0 w1 h1 ∧ RS h1 v r
theorem s_ref01_Words (k : Nat) : C_ref01_Words (F_ref01_Words k) := by
 intro  r HF w0 h0  hs0 
 have S0 : Stp [] w0 h0 w0 h0 := Stp.refl hs0 _
 refine enter (n := 2) Tryz.func178 rfl Tryz.ntmps178 rfl [] rfl <| WC.seq <| WC.region <| Wa rfl rfl <| WL.nil <| WQ.seqN <| WC.seq <| WC.region <| WL.buildSliceD (us := ((.string b'98) :: (.string b'100) :: (.string b'99) :: (.string b'101) :: (.string b'102) :: (.string b'103) :: (.string b'104) :: (.string b'105) :: (.string b'108) :: (.string b'107) :: (.string b'106) :: (.string b'109) :: (.string b'0) :: (.string b'1) :: (.string b'2) :: (.string b'3) :: (.string b'4) :: (.string b'10) :: (.string b'9) :: (.string b'5) :: (.string b'6) :: (.string b'7) :: (.string b'8) :: (.string b'11) :: (.string b'12) :: (.string b'13) :: (.string b'14) :: (.string b'18) :: (.string b'19) :: (.string b'20) :: (.string b'15) :: (.string b'16) :: (.string b'17) :: (.string b'21) :: (.string b'22) :: (.string b'23) :: (.string b'24) :: (.string b'25) :: (.string b'26) :: (.string b'27) :: (.string b'30) :: (.string b'29) :: (.string b'28) :: (.string b'31) :: (.string b'33) :: (.string b'32) :: (.string b'35) :: (.string b'34) :: (.string b'36) :: (.string b'37) :: (.string b'38) :: (.string b'41) :: (.string b'39) :: (.string b'40) :: (.string b'42) :: (.string b'43) :: (.string b'44) :: (.string b'46) :: (.string b'45) :: (.string b'47) :: (.string b'48) :: (.string b'49) :: (.string b'50) :: (.string b'51) :: (.string b'52) :: (.string b'57) :: (.string b'54) :: (.string b'56) :: (.string b'55) :: (.string b'53) :: (.string b'58) :: (.string b'60) :: (.string b'59) :: (.string b'61) :: (.string b'62) :: (.string b'65) :: (.string b'63) :: (.string b'64) :: (.string b'66) :: (.string b'73) :: (.string b'67) :: (.string b'68) :: (.string b'69) :: (.string b'71) :: (.string b'70) :: (.string b'74) :: (.string b'75) :: (.string b'76) :: (.string b'78) :: (.string b'77) :: [])) (cs := ((.string b'98) :: (.string b'100) :: (.string b'99) :: (.string b'101) :: (.string b'102) :: (.string b'103) :: (.string b'104) :: (.string b'105) :: (.string b'108) :: (.string b'107) :: (.string b'106) :: (.string b'109) :: (.string b'0) :: (.string b'1) :: (.string b'2) :: (.string b'3) :: (.string b'4) :: (.string b'10) :: (.string b'9) :: (.string b'5) :: (.string b'6) :: (.string b'7) :: (.string b'8) :: (.string b'11) :: (.string b'12) :: (.string b'13) :: (.string b'14) :: (.string b'18) :: (.string b'19) :: (.string b'20) :: (.string b'15) :: (.string b'16) :: (.string b'17) :: (.string b'21) :: (.string b'22) :: (.string b'23) :: (.string b'24) :: (.string b'25) :: (.string b'26) :: (.string b'27) :: (.string b'30) :: (.string b'29) :: (.string b'28) :: (.string b'31) :: (.string b'33) :: (.string b'32) :: (.string b'35) :: (.string b'34) :: (.string b'36) :: (.string b'37) :: (.string b'38) :: (.string b'41) :: (.string b'39) :: (.string b'40) :: (.string b'42) :: (.string b'43) :: (.string b'44) :: (.string b'46) :: (.string b'45) :: (.string b'47) :: (.string b'48) :: (.string b'49) :: (.string b'50) :: (.string b'51) :: (.string b'52) :: (.string b'57) :: (.string b'54) :: (.string b'56) :: (.string b'55) :: (.string b'53) :: (.string b'58) :: (.string b'60) :: (.string b'59) :: (.string b'61) :: (.string b'62) :: (.string b'65) :: (.string b'63) :: (.string b'64) :: (.string b'66) :: (.string b'73) :: (.string b'67) :: (.string b'68) :: (.string b'69) :: (.string b'71) :: (.string b'70) :: (.string b'74) :: (.string b'75) :: (.string b'76) :: (.string b'78) :: (.string b'77) :: [])) rfl rfl rfl t_slice_53 t_size_9 t_zero_9 rfl (cl_cons rfl (cl_cons rfl (cl_cons rfl (cl_cons rfl (cl_cons rfl (cl_cons rfl (cl_cons rfl (cl_cons rfl (cl_cons rfl (cl_cons rfl (cl_cons rfl (cl_cons rfl (cl_cons rfl (cl_cons rfl (cl_cons rfl (cl_cons rfl (cl_cons rfl (cl_cons rfl (cl_cons rfl (cl_cons rfl (cl_cons rfl (cl_cons rfl (cl_cons rfl (cl_cons rfl (cl_cons rfl (cl_cons rfl (cl_cons rfl (cl_cons rfl (cl_cons rfl (cl_cons rfl (cl_cons rfl (cl_cons rfl (cl_cons rfl (cl_cons rfl (cl_cons rfl (cl_cons rfl (cl_cons rfl (cl_cons rfl (cl_cons rfl (cl_cons rfl (cl_cons rfl (cl_cons rfl (cl_cons rfl (cl_cons rfl (cl_cons rfl (cl_cons rfl (cl_cons rfl (cl_cons rfl (cl_cons rfl (cl_cons rfl (cl_cons rfl (cl_cons rfl (cl_cons rfl (cl_cons rfl (cl_cons rfl (cl_cons rfl (cl_cons rfl (cl_cons rfl (cl_cons rfl (cl_cons rfl (cl_cons rfl (cl_cons rfl (cl_cons rfl (cl_cons rfl (cl_cons rfl (cl_cons rfl (cl_cons rfl (cl_cons rfl (cl_cons rfl (cl_cons rfl (cl_cons rfl (cl_cons rfl (cl_cons rfl (cl_cons rfl (cl_cons rfl (cl_cons rfl (cl_cons rfl (cl_cons rfl (cl_cons rfl (cl_cons rfl (cl_cons rfl (cl_cons rfl (cl_cons rfl (cl_cons rfl (cl_cons rfl (cl_cons rfl (cl_cons rfl (cl_cons rfl (cl_cons rfl (cl_cons rfl cl_nil)))))))))))))))))))))))))))))))))))))))))))))))))))))))))))))))))))))))))))))))))))))))))) rfl rfl rfl S0.sub (fun w1 h2 b3 hb4 s5 hk6 hc7 => ?_)
 have S8 := S0.trans0 s5
 have rs9 : RS h2 (sl b3 0 90 90) ((b'98 :: b'100 :: b'99 :: b'101 :: b'102 :: b'103 :: b'104 :: b'105 :: b'108 :: b'107 :: b'106 :: b'109 :: b'0 :: b'1 :: b'2 :: b'3 :: b'4 :: b'10 :: b'9 :: b'5 :: b'6 :: b'7 :: b'8 :: b'11 :: b'12 :: b'13 :: b'14 :: b'18 :: b'19 :: b'20 :: b'15 :: b'16 :: b'17 :: b'21 :: b'22 :: b'23 :: b'24 :: b'25 :: b'26 :: b'27 :: b'30 :: b'29 :: b'28 :: b'31 :: b'33 :: b'32 :: b'35 :: b'34 :: b'36 :: b'37 :: b'38 :: b'41 :: b'39 :: b'40 :: b'42 :: b'43 :: b'44 :: b'46 :: b'45 :: b'47 :: b'48 :: b'49 :: b'50 :: b'51 :: b'52 :: b'57 :: b'54 :: b'56 :: b'55 :: b'53 :: b'58 :: b'60 :: b'59 :: b'61 :: b'62 :: b'65 :: b'63 :: b'64 :: b'66 :: b'73 :: b'67 :: b'68 :: b'69 :: b'71 :: b'70 :: b'74 :: b'75 :: b'76 :: b'78 :: b'77 :: []) : List ByteArray) := RS.litL _ ([.string b'98] :: [.string b'100] :: [.string b'99] :: [.string b'101] :: [.string b'102] :: [.string b'103] :: [.string b'104] :: [.string b'105] :: [.string b'108] :: [.string b'107] :: [.string b'106] :: [.string b'109] :: [.string b'0] :: [.string b'1] :: [.string b'2] :: [.string b'3] :: [.string b'4] :: [.string b'10] :: [.string b'9] :: [.string b'5] :: [.string b'6] :: [.string b'7] :: [.string b'8] :: [.string b'11] :: [.string b'12] :: [.string b'13] :: [.string b'14] :: [.string b'18] :: [.string b'19] :: [.string b'20] :: [.string b'15] :: [.string b'16] :: [.string b'17] :: [.string b'21] :: [.string b'22] :: [.string b'23] :: [.string b'24] :: [.string b'25] :: [.string b'26] :: [.string b'27] :: [.string b'30] :: [.string b'29] :: [.string b'28] :: [.string b'31] :: [.string b'33] :: [.string b'32] :: [.string b'35] :: [.string b'34] :: [.string b'36] :: [.string b'37] :: [.string b'38] :: [.string b'41] :: [.string b'39] :: [.string b'40] :: [.string b'42] :: [.string b'43] :: [.string b'44] :: [.string b'46] :: [.string b'45] :: [.string b'47] :: [.string b'48] :: [.string b'49] :: [.string b'50] :: [.string b'51] :: [.string b'52] :: [.string b'57] :: [.string b'54] :: [.string b'56] :: [.string b'55] :: [.string b'53] :: [.string b'58] :: [.string b'60] :: [.string b'59] :: [.string b'61] :: [.string b'62] :: [.string b'65] :: [.string b'63] :: [.string b'64] :: [.string b'66] :: [.string b'73] :: [.string b'67] :: [.string b'68] :: [.string b'69] :: [.string b'71] :: [.string b'70] :: [.string b'74] :: [.string b'75] :: [.string b'76] :: [.string b'78] :: [.string b'77] :: []) rfl rfl hc7 ⟨rfl, rfl, rfl, rfl, rfl, rfl, rfl, rfl, rfl, rfl, rfl, rfl, rfl, rfl, rfl, rfl, rfl, rfl, rfl, rfl, rfl, rfl, rfl, rfl, rfl, rfl, rfl, rfl, rfl, rfl, rfl, rfl, rfl, rfl, rfl, rfl, rfl, rfl, rfl, rfl, rfl, rfl, rfl, rfl, rfl, rfl, rfl, rfl, rfl, rfl, rfl, rfl, rfl, rfl, rfl, rfl, rfl, rfl, rfl, rfl, rfl, rfl, rfl, rfl, rfl, rfl, rfl, rfl, rfl, rfl, rfl, rfl, rfl, rfl, rfl, rfl, rfl, rfl, rfl, rfl, rfl, rfl, rfl, rfl, rfl, rfl, rfl, rfl, rfl, rfl, trivial⟩
 have ow10 := Own.lit (base := w0.heap.size) (sz := 1) (m := 90) hk6 hc7 (by rw [hb4]; exact S0.size) rfl (by decide)
 refine Wa rfl rfl <| WL.nil <| WQ.seqN <| WC.ret <| WQ.ret1 rfl rfl ?_
 obtain rfl := Option.some.inj HF
 exact ⟨_, rfl, h2, S8, rs9⟩
theorem ok_ref01_Words (k : Nat) : C_ref01_Words (F_ref01_Words k) := s_ref01_Words k

def C_ref01_IsWord (φ : ByteArray → Option Bool) : Prop := ∀ ⦃x1 : ByteArray⦄ ⦃r : Bool⦄, φ x1 = some r → ∀ ⦃w0 : World⦄ ⦃h0 : Hp⦄, Sub h0 w0 →
  Calls Tryz.prog 143 #[.string x1] w0 fun e w1 => ∃ v, e = .returned v ∧ ∃ h1, Stp [] w0 h0 w1 h1 ∧ v = .bool r
theorem s_ref01_IsWord (k : Nat) : C_ref01_IsWord (F_ref01_IsWord k) := by
 intro x1 r HF w0 h0  hs0 
 have S0 : Stp [] w0 h0 w0 h0 := Stp.refl hs0 _
 refine enter (n := 6) Tryz.func143 rfl Tryz.ntmps143 rfl [(0, .string x1)] rfl <| WC.seq <| WC.region <| Wa rfl rfl <| WL.nil <| WQ.seqN <| WC.seq <| WC.region ?_
 obtain ⟨r2, hr3, HF⟩ := bind_some HF
 refine Wc rfl (oc_func (vs := []) rfl t_ent_178) (ok_ref01_Words _ hr3 S0.sub) ?_
 rintro v8 w5 ⟨h6, s7, rs9⟩
 have S10 := S0.trans0 s7
 refine Wm rfl rfl ?_
 obtain ⟨r11, hr12, HF⟩ := bind_some HF
 refine Wc rfl (oc_func (vs := [v8, .string x1]) rfl t_ent_177) (ok_ref01_has _ hr12 S10.sub rs9) ?_
 rintro _ w14 ⟨h15, s16, rfl⟩
 have S17 := S10.trans0 s16
 refine Wa rfl rfl <| WL.nil <| WQ.seqN <| WC.ret <| WQ.ret1 rfl rfl ?_
 obtain rfl := Option.some.inj HF
 exact ⟨_, rfl, h15, S17, rfl⟩
theorem ok_ref01_IsWord (k : Nat) : C_ref01_IsWord (F_ref01_IsWord k) := s_ref01_IsWord k

def C_ref01_IsName (φ : ByteArray → Option Bool) : Prop := ∀ ⦃x1 : ByteArray⦄ ⦃r : Bool⦄, φ x1 = some r → ∀ ⦃w0 : World⦄ ⦃h0 : Hp⦄, Sub h0 w0 →
  Calls Tryz.prog 84 #[.string x1] w0 fun e w1 => ∃ v, e = .returned v ∧ ∃ h1, Stp [] w0 h0 w1 h1 ∧ v = .bool r
theorem s_ref01_IsName (k : Nat) (IH : ∀ j, j ≤ k → C_ref01_IsName (tie_ref01_IsName j).ref01_IsName) : C_ref01_IsName (m_ref01_IsName k (tie_ref01_IsName k)) := by
 intro x1 r HF w0 h0  hs0 
 have S0 : Stp [] w0 h0 w0 h0 := Stp.refl hs0 _
 refine enter (n := 45) Tryz.func84 rfl Tryz.ntmps84 rfl [(0, .string x1)] rfl <| WC.seq <| WC.region <| Wa rfl rfl <| WL.nil <| WQ.seqN <| WC.seq <| WC.seq <| WC.region <| Wa rfl rfl <| WL.nil <| WQ.seqN <| WC.block <| WC.loop <| WP.to [0, 3] [(0, .string x1), (3, vi 0)] rfl <| WP_rule (K := k) (fun j E w3 => ∃ (h2 : Hp) (x6 : Int), (tie_ref01_IsName j).ref01_IsName_l1 x1 x6 = some r ∧ E = [(0, .string x1), (3, vi x6)] ∧ Stp [] w0 h0 w3 h2 ∧ Hle h0 h2) ?_ ?_ (j := k) (Nat.le_refl _) ?_
 ·rintro E w3 ⟨_, _, HF, _⟩; cases HF
 ·rintro j7 hj9 IHL8 E w3 ⟨h2, x6, HF, rfl, S5, le4⟩
  refine WC.join (fun E w21 => ∃ (h20 : Hp), ref01_IsName_j2 j7 (tie_ref01_IsName j7) x1 x6 = some r ∧ E = [(0, .string x1), (3, vi x6)] ∧ Stp [] w0 h0 w21 h20 ∧ Hle h2 h20) ?_ ?_
  ·rintro E w21 ⟨h20, HF, rfl, S23, le22⟩
   refine WC.join (fun E w55 => ∃ (h54 : Hp), ref01_IsName_j4 j7 (tie_ref01_IsName j7) x1 x6 = some r ∧ E = [(0, .string x1), (3, vi x6)] ∧ Stp [] w0 h0 w55 h54 ∧ Hle h20 h54) ?_ ?_
   ·rintro E w55 ⟨h54, HF, rfl, S57, le56⟩
    refine WC.region <| Wm rfl rfl <| Wv rfl (ov_add rfl rfl) <| Wa rfl rfl <| WL.nil <| WQ.loopN <| WP.to [0, 3] [(0, .string x1), (3, vi (IntKind.i64.wrap (x6 + 1)))] rfl ?_
    exact IHL8 j7 (Nat.le_refl _) _ _ ⟨h54, IntKind.i64.wrap (x6 + 1), HF, rfl, S57, (le4).trans ((le22).trans le56)⟩
   intro J58
   refine WC.block <| WC.join (fun E w48 => ∃ (h47 : Hp) (x51 : Bool), ref01_IsName_j3 j7 (tie_ref01_IsName j7) x1 x6 x51 = some r ∧ E = [(0, .string x1), (3, vi x6), (31, .bool x51)] ∧ Stp [] w0 h0 w48 h47 ∧ Hle h20 h47) ?_ ?_
   ·rintro E w48 ⟨h47, x51, HF, rfl, S50, le49⟩
    refine WC.cF HF rfl (fun HF => ?_) (fun HF => ?_)
    ·refine WC.seq <| WC.region <| Wa rfl rfl <| WL.nil <| WQ.seqN <| WC.ret <| WQ.blockRet <| WQ.thenRet <| WQ.thenRet <| WQ.blockRet <| WQ.thenRet <| WQ.ret1 rfl rfl ?_
     obtain rfl := Option.some.inj HF
     exact ⟨_, rfl, h47, S50, rfl⟩
    refine WC.skip <| WQ.blockN <| WC.to [0, 3] _ rfl ?_
    exact J58 ⟨h47, HF, rfl, S50, le49⟩
   intro J53
   refine WC.region <| Wm rfl rfl <| Wm rfl rfl ?_
   obtain ⟨c24, hc25, HF⟩ := bind_some HF
   refine Wv rfl (ov_indexSO rfl rfl t_string_9 hc25) ?_
   obtain ⟨r26, hr27, HF⟩ := bind_some HF
   refine Wc rfl (oc_func (vs := [.int .u8 c24]) rfl t_ent_141) (ok_ref01_letter _ hr27 S23.sub) ?_
   rintro _ w29 ⟨h30, s31, rfl⟩
   have S32 := S23.trans0 s31
   refine Wv rfl (ov_not rfl) <| Wm rfl rfl <| WL.sF 15 HF rfl (fun HF => ?_) (fun HF => ?_)
   ·refine Wm rfl rfl <| Wv rfl (ov_eql rfl rfl) <| Wm rfl rfl <| WL.sF 18 HF rfl (fun HF => ?_) (fun HF => ?_)
    ·refine Wp rfl <| Wp rfl <| Wp rfl <| Wp rfl <| Wp rfl <| Wp rfl <| Wp rfl <| Wp rfl <| Wp rfl <| Wp rfl <| Wp rfl <| Wv rfl (ov_pickT rfl rfl) <| Wv rfl (ov_pickT rfl rfl) <| WL.nil <| WC.to [0, 3, 31] _ rfl ?_
     exact J53 ⟨h30, true, HF, rfl, S32, s31.le⟩
    refine Wm rfl rfl <| Wm rfl rfl ?_
    obtain ⟨c35, hc36, HF⟩ := bind_some HF
    refine Wv rfl (ov_indexSO rfl rfl t_string_9 hc36) ?_
    obtain ⟨r37, hr38, HF⟩ := bind_some HF
    refine Wc rfl (oc_func (vs := [.int .u8 c35]) rfl t_ent_142) (ok_ref01_digit _ hr38 S32.sub) ?_
    rintro _ w40 ⟨h41, s42, rfl⟩
    have S43 := S32.trans0 s42
    refine Wv rfl (ov_not rfl) <| Wm rfl rfl <| WL.sF 24 HF rfl (fun HF => ?_) (fun HF => ?_)
    ·refine Wm rfl rfl <| Wm rfl rfl ?_
     obtain ⟨c45, hc46, HF⟩ := bind_some HF
     refine Wv rfl (ov_indexSO rfl rfl t_string_9 hc46) <| Wv rfl (ov_neq rfl rfl) <| Wv rfl (ov_pickT rfl rfl) <| Wv rfl (ov_pickF rfl rfl) <| Wv rfl (ov_pickT rfl rfl) <| WL.nil <| WC.to [0, 3, 31] _ rfl ?_
     exact J53 ⟨h41, (c45 : Int) != 95, HF, rfl, S43, (s31.le).trans s42.le⟩
    refine Wp rfl <| Wp rfl <| Wp rfl <| Wp rfl <| Wv rfl (ov_pickF rfl rfl) <| Wv rfl (ov_pickF rfl rfl) <| Wv rfl (ov_pickT rfl rfl) <| WL.nil <| WC.to [0, 3, 31] _ rfl ?_
    exact J53 ⟨h41, false, HF, rfl, S43, (s31.le).trans s42.le⟩
   refine Wp rfl <| Wp rfl <| Wp rfl <| Wp rfl <| Wp rfl <| Wp rfl <| Wp rfl <| Wp rfl <| Wp rfl <| Wp rfl <| Wp rfl <| Wp rfl <| Wp rfl <| Wp rfl <| Wp rfl <| Wv rfl (ov_pickF rfl rfl) <| WL.nil <| WC.to [0, 3, 31] _ rfl ?_
   exact J53 ⟨h30, false, HF, rfl, S32, s31.le⟩
  intro J59
  refine WC.seq <| WC.region <| Wm rfl rfl <| Wm rfl rfl <| Wv rfl (ov_lenS rfl t_string_9) <| Wv rfl (ov_lss rfl rfl) <| WL.nil <| WQ.seqN <| WC.cF HF rfl (fun HF => ?_) (fun HF => ?_)
  ·refine WC.skip <| WC.to [0, 3] _ rfl ?_
   exact J59 ⟨h2, HF, rfl, S5, Hle.refl _⟩
  refine WC.exit <| WQ.thenExit <| WQ.thenExit <| WQ.blockHit <| WQ.seqN <| WC.seq <| WC.region <| Wm rfl rfl <| Wv rfl (ov_lenS rfl t_string_9) <| Wv rfl (ov_geq rfl rfl) <| Wm rfl rfl <| WL.sF 35 HF rfl (fun HF => ?_) (fun HF => ?_)
  ·refine Wm rfl rfl <| Wv rfl (ov_lenS rfl t_string_9) <| Wv rfl (ov_leq rfl rfl) <| Wv rfl (ov_pickT rfl rfl) <| Wm rfl rfl <| WL.sF 40 HF rfl (fun HF => ?_) (fun HF => ?_)
   ·refine Wm rfl rfl ?_
    obtain ⟨r13, hr14, HF⟩ := bind_some HF
    refine Wc rfl (oc_func (vs := [.string x1]) rfl t_ent_143) (ok_ref01_IsWord _ hr14 S5.sub) ?_
    rintro _ w16 ⟨h17, s18, rfl⟩
    have S19 := S5.trans0 s18
    refine Wv rfl (ov_not rfl) <| Wv rfl (ov_pickT rfl rfl) <| Wa rfl rfl <| WL.nil <| WQ.seqN <| WC.ret <| WQ.ret1 rfl rfl ?_
    obtain rfl := Option.some.inj HF
    exact ⟨_, rfl, h17, S19, rfl⟩
   refine Wp rfl <| Wp rfl <| Wp rfl <| Wv rfl (ov_pickF rfl rfl) <| Wa rfl rfl <| WL.nil <| WQ.seqN <| WC.ret <| WQ.ret1 rfl rfl ?_
   obtain rfl := Option.some.inj HF
   exact ⟨_, rfl, h2, S5, rfl⟩
  refine Wp rfl <| Wp rfl <| Wp rfl <| Wv rfl (ov_pickF rfl rfl) <| Wm rfl rfl <| Wp rfl <| Wp rfl <| Wp rfl <| Wv rfl (ov_pickF rfl rfl) <| Wa rfl rfl <| WL.nil <| WQ.seqN <| WC.ret <| WQ.ret1 rfl rfl ?_
  obtain rfl := Option.some.inj HF
  exact ⟨_, rfl, h2, S5, rfl⟩
 exact ⟨h0, 0, HF, rfl, S0, Hle.refl _⟩
theorem all_ref01_IsName : ∀ k j, j ≤ k → C_ref01_IsName (tie_ref01_IsName j).ref01_IsName := by
  intro k
  induction k with
  | zero =>
    intro j hj
    obtain rfl : j = 0 := by omega
    exact (fun _ _ => by intro h; cases h)
  | succ k ih =>
    intro j hj
    by_cases h : j ≤ k
    · exact ih j h
    · obtain rfl : j = k + 1 := by omega
      exact s_ref01_IsName k ih
theorem ok_ref01_IsName (k : Nat) : C_ref01_IsName (F_ref01_IsName k) := (all_ref01_IsName k k (Nat.le_refl _))

def C_ref02_Size_Node (φ : Int → Int → Bool → Int → Option (Int × Int × Bool)) : Prop := ∀ ⦃x3 : Int⦄ ⦃x4 : Int⦄ ⦃x5 : Bool⦄ ⦃x7 : Int⦄ ⦃r : Int × Int × Bool⦄, φ x3 x4 x5 x7 = some r → ∀ ⦃w0 : World⦄ ⦃h0 : Hp⦄ ⦃b1 : Nat⦄ ⦃T2 : Nat⦄, Sub h0 w0 → OB w0 h0 b1 T2 [.int .i64 x3, .int .i64 x4, .bool x5] →
  Calls Tryz.prog 82 #[.pointer (some ⟨b1, 0, none⟩), .int .i64 x7] w0 fun e w1 => ∃ v, e = .returned v ∧ ∃ h1, Stp [b1] w0 h0 w1 h1 ∧ v = .tuple #[] ∧ (OB w1 h1 b1 T2 [.int .i64 r.1, .int .i64 r.2.1, .bool r.2.2])
theorem s_ref02_Size_Node (k : Nat) : C_ref02_Size_Node (F_ref02_Size_Node k) := by
 intro x3 x4 x5 x7 r HF w0 h0 b1 T2 hs0 ob6
 have S0 : Stp [b1] w0 h0 w0 h0 := Stp.refl hs0 _
 have lt8 : b1 < w0.heap.size := OB.lt ob6
 refine enter (n := 32) Tryz.func82 rfl Tryz.ntmps82 rfl [(0, pt b1 0), (1, vi x7)] rfl <| WC.seq <| WC.region <| Wm rfl rfl <| Wv rfl (ov_nilCheck rfl) <| Wv rfl (ov_fieldAddr rfl t_field_43_0) <| Wv rfl (ov_load1 rfl t_agg_3 (OB.cell ob6 (j := 0) rfl)) <| Wv rfl (ov_add rfl rfl) <| Wv rfl (ov_nilCheck rfl) <| Wv rfl (ov_fieldAddr rfl t_field_43_0) <| WL.store (vs := [vi (IntKind.i64.wrap (x3 + 1))]) rfl rfl rfl rfl t_size_3 (one_cons rfl one_nil) ob6 S0.sub (by simp) (ds := [vi (IntKind.i64.wrap (x3 + 1)), vi x4, .bool x5]) rfl (fun w9 s10 ob11 => ?_)
 have S12 := S0.trans1 s10 (.inl (by simp))
 refine WL.nil <| WQ.seqN <| WC.seq <| WC.region <| Wm rfl rfl <| Wm rfl rfl <| Wv rfl (ov_nilCheck rfl) <| Wv rfl (ov_fieldAddr rfl t_field_43_1) <| Wv rfl (ov_load1 rfl t_agg_3 (OB.cell ob11 (j := 1) rfl)) <| Wm rfl rfl <| Wv rfl (ov_max rfl rfl) <| Wv rfl (ov_nilCheck rfl) <| Wv rfl (ov_fieldAddr rfl t_field_43_1) <| WL.store (vs := [vi (imax x4 x7)]) rfl rfl rfl rfl t_size_3 (one_cons rfl one_nil) ob11 S12.sub (by simp) (ds := [vi (IntKind.i64.wrap (x3 + 1)), vi (imax x4 x7), .bool x5]) rfl (fun w13 s14 ob15 => ?_)
 have S16 := S12.trans1 s14 (.inl (by simp))
 refine WL.nil <| WQ.seqN <| WC.join (fun E w19 => ∃ (h18 : Hp) (x22 : Bool), ref02_Size_Node_j1 k x3 x4 x5 x7 x22 = some r ∧ E = [(0, pt b1 0), (28, .bool x22)] ∧ Stp [b1] w0 h0 w19 h18 ∧ Hle h0 h18 ∧ OB w19 h18 b1 T2 [vi (IntKind.i64.wrap (x3 + 1)), vi (imax x4 x7), .bool x5]) ?_ ?_
 ·rintro E w19 ⟨h18, x22, HF, rfl, S21, le20, ob23⟩
  refine WC.cF HF rfl (fun HF => ?_) (fun HF => ?_)
  ·refine WC.region <| Wm rfl rfl <| Wv rfl (ov_nilCheck rfl) <| Wv rfl (ov_fieldAddr rfl t_field_43_2) <| WL.store (vs := [.bool true]) rfl rfl rfl rfl t_size_4 (one_cons rfl one_nil) ob23 S21.sub (by simp) (ds := [vi (IntKind.i64.wrap (x3 + 1)), vi (imax x4 x7), .bool true]) rfl (fun w25 s26 ob27 => ?_)
   have S28 := S21.trans1 s26 (.inl (by simp))
   refine WL.nil <| WQ.end0 rfl ?_
   obtain rfl := Option.some.inj HF
   exact ⟨_, rfl, h18, S28, rfl, ob27⟩
  refine WC.skip <| WQ.end0 rfl ?_
  obtain rfl := Option.some.inj HF
  exact ⟨_, rfl, h18, S21, rfl, ob23⟩
 intro J29
 refine WC.region <| Wm rfl rfl <| Wv rfl (ov_nilCheck rfl) <| Wv rfl (ov_fieldAddr rfl t_field_43_0) <| Wv rfl (ov_load1 rfl t_agg_3 (OB.cell ob15 (j := 0) rfl)) <| Wv rfl (ov_gtr rfl rfl) <| Wm rfl rfl <| WL.sF 25 HF rfl (fun HF => ?_) (fun HF => ?_)
 ·refine Wp rfl <| Wp rfl <| Wv rfl (ov_pickT rfl rfl) <| WL.nil <| WC.to [0, 28] _ rfl ?_
  exact J29 ⟨h0, true, HF, rfl, S16, Hle.refl _, ob15⟩
 refine Wm rfl rfl <| Wv rfl (ov_gtr rfl rfl) <| Wv rfl (ov_pickF rfl rfl) <| WL.nil <| WC.to [0, 28] _ rfl ?_
 exact J29 ⟨h0, decide ((14 : Int) < x7), HF, rfl, S16, Hle.refl _, ob15⟩
theorem ok_ref02_Size_Node (k : Nat) : C_ref02_Size_Node (F_ref02_Size_Node k) := s_ref02_Size_Node k

def C_ref02_Size_Expr (φ : Int → Int → Bool → Ex → Int → Option (Int × Int × Bool)) : Prop := ∀ ⦃x3 : Int⦄ ⦃x4 : Int⦄ ⦃x5 : Bool⦄ ⦃x7 : Ex⦄ ⦃x10 : Int⦄ ⦃r : Int × Int × Bool⦄, φ x3 x4 x5 x7 x10 = some r → ∀ ⦃w0 : World⦄ ⦃h0 : Hp⦄ ⦃b1 : Nat⦄ ⦃T2 : Nat⦄ ⦃cs8 : List Value⦄, Sub h0 w0 → Rp.R h0 x7 cs8 → OB w0 h0 b1 T2 [.int .i64 x3, .int .i64 x4, .bool x5] →
  Calls Tryz.prog 49 #[.pointer (some ⟨b1, 0, none⟩), .agg cs8.toArray, .int .i64 x10] w0 fun e w1 => ∃ v, e = .returned v ∧ ∃ h1, Stp [b1] w0 h0 w1 h1 ∧ v = .tuple #[] ∧ (OB w1 h1 b1 T2 [.int .i64 r.1, .int .i64 r.2.1, .bool r.2.2])
def C_ref02_Size_Exprs (φ : Int → Int → Bool → (List Ex) → Int → Option (Int × Int × Bool)) : Prop := ∀ ⦃x3 : Int⦄ ⦃x4 : Int⦄ ⦃x5 : Bool⦄ ⦃xs7 : List Ex⦄ ⦃x10 : Int⦄ ⦃r : Int × Int × Bool⦄, φ x3 x4 x5 xs7 x10 = some r → ∀ ⦃w0 : World⦄ ⦃h0 : Hp⦄ ⦃b1 : Nat⦄ ⦃T2 : Nat⦄ ⦃v8 : Value⦄, Sub h0 w0 → RS h0 v8 xs7 → OB w0 h0 b1 T2 [.int .i64 x3, .int .i64 x4, .bool x5] →
  Calls Tryz.prog 85 #[.pointer (some ⟨b1, 0, none⟩), v8, .int .i64 x10] w0 fun e w1 => ∃ v, e = .returned v ∧ ∃ h1, Stp [b1] w0 h0 w1 h1 ∧ v = .tuple #[] ∧ (OB w1 h1 b1 T2 [.int .i64 r.1, .int .i64 r.2.1, .bool r.2.2])
theorem s_ref02_Size_Expr (k : Nat) (IH : ∀ j, j ≤ k → C_ref02_Size_Expr (tie_ref02_Size_Expr j).ref02_Size_Expr ∧ C_ref02_Size_Exprs (tie_ref02_Size_Expr j).ref02_Size_Exprs) : C_ref02_Size_Expr (m_ref02_Size_Expr k (tie_ref02_Size_Expr k)) := by
 intro x3 x4 x5 x7 x10 r HF w0 h0 b1 T2 cs8 hs0 r9 ob6
 have S0 : Stp [b1] w0 h0 w0 h0 := Stp.refl hs0 _
 have lt11 : b1 < w0.heap.size := OB.lt ob6
 refine enter (n := 150) Tryz.func49 rfl Tryz.ntmps49 rfl [(0, pt b1 0), (1, .agg cs8.toArray), (2, vi x10)] rfl <| WC.seq <| WC.region ?_
 obtain ⟨v12, rfl, rs13⟩ := rp_Ex.1 r9
 refine WL.box (cs := [vi x7.op, vi x7.kind, vi x7.n, .string x7.s, .string x7.f, v12]) rfl rfl rfl rfl S0.sub (fun w14 b15 hb16 s17 ob18 => ?_)
 have ne19 : b1 ≠ b15 := ob6.ne_new hb16
 have g20 : w0.heap.size ≤ b15 := by rw [hb16]; exact S0.size
 have S21 := S0.trans0 s17
 refine WL.nil <| WQ.seqN <| WC.join (fun E w25 => ∃ (h24 : Hp), ref02_Size_Expr_j1 k (tie_ref02_Size_Expr k) x3 x4 x5 x7 x10 = some r ∧ E = [(0, pt b1 0), (2, vi x10), (4, pt b15 0)] ∧ Stp [b1] w0 h0 w25 h24 ∧ Hle h0 h24 ∧ OB w25 h24 b1 T2 [vi x3, vi x4, .bool x5] ∧ OB w25 h24 b15 47 [vi x7.op, vi x7.kind, vi x7.n, .string x7.s, .string x7.f, v12]) ?_ ?_
 ·rintro E w25 ⟨h24, HF, rfl, S27, le26, ob28, ob29⟩
  refine WC.seq <| WC.region <| Wm rfl rfl <| Wm rfl rfl ?_
  obtain ⟨r30, hr31, HF⟩ := bind_some HF
  refine Wc rfl (oc_func (vs := [pt b1 0, vi x10]) rfl t_ent_82) (ok_ref02_Size_Node _ hr31 S27.sub ob28) ?_
  rintro v32 w33 ⟨h34, s35, rfl, ob36⟩
  have S37 := S27.trans s35 (in_cons (.inl (by simp)) in_nil)
  refine WL.nil <| WQ.seqN <| WC.seq <| WC.region <| Wa rfl rfl <| WL.nil <| WQ.seqN <| WC.seq <| WC.region <| Wa rfl rfl <| Wa rfl rfl <| WL.nil <| WQ.seqN <| WC.join (fun E w128 => ∃ (h127 : Hp) (x131 : Int) (x132 : Bool) (x133 : Bool) (x134 : Bool), ref02_Size_Expr_j3 k (tie_ref02_Size_Expr k) x7 x10 r30 x131 x132 x133 x134 = some r ∧ E = [(0, pt b1 0), (2, vi x10), (4, pt b15 0), (6, vi x131), (7, .bool x132), (8, .bool x133)] ∧ Stp [b1] w0 h0 w128 h127 ∧ Hle h34 h127 ∧ OB w128 h127 b1 T2 [vi r30.1, vi r30.2.1, .bool x134] ∧ OB w128 h127 b15 47 [vi x7.op, vi x7.kind, vi x7.n, .string x7.s, .string x7.f, v12]) ?_ ?_
  ·rintro E w128 ⟨h127, x131, x132, x133, x134, HF, rfl, S130, le129, ob135, ob136⟩
   refine WC.join (fun E w176 => ∃ (h175 : Hp) (x179 : Bool), ref02_Size_Expr_j4 k (tie_ref02_Size_Expr k) x7 x10 r30 x132 x133 x179 = some r ∧ E = [(0, pt b1 0), (2, vi x10), (4, pt b15 0), (7, .bool x132), (8, .bool x133)] ∧ Stp [b1] w0 h0 w176 h175 ∧ Hle h127 h175 ∧ OB w176 h175 b1 T2 [vi r30.1, vi r30.2.1, .bool x179] ∧ OB w176 h175 b15 47 [vi x7.op, vi x7.kind, vi x7.n, .string x7.s, .string x7.f, v12]) ?_ ?_
   ·rintro E w176 ⟨h175, x179, HF, rfl, S178, le177, ob180, ob181⟩
    refine WC.join (fun E w238 => ∃ (h237 : Hp) (x241 : Bool), ref02_Size_Expr_j5 k (tie_ref02_Size_Expr k) x7 x10 r30 x133 x241 = some r ∧ E = [(0, pt b1 0), (2, vi x10), (4, pt b15 0), (8, .bool x133)] ∧ Stp [b1] w0 h0 w238 h237 ∧ Hle h175 h237 ∧ OB w238 h237 b1 T2 [vi r30.1, vi r30.2.1, .bool x241] ∧ OB w238 h237 b15 47 [vi x7.op, vi x7.kind, vi x7.n, .string x7.s, .string x7.f, v12]) ?_ ?_
    ·rintro E w238 ⟨h237, x241, HF, rfl, S240, le239, ob242, ob243⟩
     refine WC.join (fun E w300 => ∃ (h299 : Hp) (x303 : Bool), ref02_Size_Expr_j6 k (tie_ref02_Size_Expr k) x7 x10 r30 x303 = some r ∧ E = [(0, pt b1 0), (2, vi x10), (4, pt b15 0)] ∧ Stp [b1] w0 h0 w300 h299 ∧ Hle h237 h299 ∧ OB w300 h299 b1 T2 [vi r30.1, vi r30.2.1, .bool x303] ∧ OB w300 h299 b15 47 [vi x7.op, vi x7.kind, vi x7.n, .string x7.s, .string x7.f, v12]) ?_ ?_
     ·rintro E w300 ⟨h299, x303, HF, rfl, S302, le301, ob304, ob305⟩
      refine WC.region <| Wm rfl rfl <| Wv rfl (ov_fieldAddr rfl t_field_47_5) <| Wv rfl (ov_load1 rfl t_agg_45 (OB.cell ob305 (j := 5) rfl)) <| Wm rfl rfl <| Wv rfl (ov_add rfl rfl) ?_
      obtain ⟨r306, hr307, HF⟩ := bind_some HF
      refine Wc rfl (oc_func (vs := [pt b1 0, v12, vi (IntKind.i64.wrap (x10 + 1))]) rfl t_ent_85) ((IH _ (Nat.le_refl _)).2 hr307 S302.sub (rs13.mono ((s17.le).trans ((le26).trans ((s35.le).trans ((le129).trans ((le177).trans ((le239).trans le301))))))) ob304) ?_
      rintro v308 w309 ⟨h310, s311, rfl, ob312⟩
      have S313 := S302.trans s311 (in_cons (.inl (by simp)) in_nil)
      refine WL.nil <| WQ.end0 rfl ?_
      obtain rfl := Option.some.inj HF
      exact ⟨_, rfl, h310, S313, rfl, ob312⟩
     intro J314
     refine WC.region <| Wm rfl rfl <| Wm rfl rfl <| Wm rfl rfl <| WL.sF 129 HF rfl (fun HF => ?_) (fun HF => ?_)
     ·refine Wv rfl (ov_fieldAddr rfl t_field_47_4) <| Wv rfl (ov_load1 rfl t_agg_9 (OB.cell ob243 (j := 4) rfl)) ?_
      obtain ⟨r245, hr246, HF⟩ := bind_some HF
      refine Wc rfl (oc_func (vs := [.string x7.f]) rfl t_ent_84) (ok_ref01_IsName _ hr246 S240.sub) ?_
      rintro _ w248 ⟨h249, s250, rfl⟩
      have S251 := S240.trans0 s250
      refine Wv rfl (ov_pickT rfl rfl) <| Wm rfl rfl <| WL.sF 134 HF rfl (fun HF => ?_) (fun HF => ?_)
      ·refine Wp rfl <| Wp rfl <| Wp rfl <| Wp rfl <| Wp rfl <| Wp rfl <| Wp rfl <| Wv rfl (ov_pickT rfl rfl) ?_
       have ob253 := (ob242.step0 s250)
       obtain ⟨r254, hr255, HF⟩ := bind_some HF
       refine Wc rfl (oc_func (vs := [pt b1 0, .bool true]) rfl t_ent_83) (ok_ref02_Size_Right _ hr255 S251.sub ob253) ?_
       rintro v256 w257 ⟨h258, s259, rfl, ob260⟩
       have S261 := S251.trans s259 (in_cons (.inl (by simp)) in_nil)
       refine WL.nil ?_
       have ob315 := ((ob243.step0 s250).step1 s259 (Ne.symm ne19))
       refine WC.to [0, 2, 4] _ rfl ?_
       exact J314 ⟨h258, r254, HF, rfl, S261, (s250.le).trans s259.le, ob260, ob315⟩
      refine Wm rfl rfl <| Wv rfl (ov_not rfl) <| Wm rfl rfl <| WL.sF 137 HF rfl (fun HF => ?_) (fun HF => ?_)
      ·refine Wv rfl (ov_fieldAddr rfl t_field_47_4) ?_
       have ob263 := (ob243.step0 s250)
       refine Wv rfl (ov_load1 rfl t_agg_9 (OB.cell ob263 (j := 4) rfl)) <| Wv rfl (ov_eqlS rfl rfl) <| Wv rfl (ov_pickT rfl rfl) <| Wv rfl (ov_pickF rfl rfl) ?_
       have ob264 := (ob242.step0 s250)
       obtain ⟨r265, hr266, HF⟩ := bind_some HF
       refine Wc rfl (oc_func (vs := [pt b1 0, .bool (bEq x7.f b'110)]) rfl t_ent_83) (ok_ref02_Size_Right _ hr266 S251.sub ob264) ?_
       rintro v267 w268 ⟨h269, s270, rfl, ob271⟩
       have S272 := S251.trans s270 (in_cons (.inl (by simp)) in_nil)
       refine WL.nil ?_
       have ob316 := (ob263.step1 s270 (Ne.symm ne19))
       refine WC.to [0, 2, 4] _ rfl ?_
       exact J314 ⟨h269, r265, HF, rfl, S272, (s250.le).trans s270.le, ob271, ob316⟩
      refine Wp rfl <| Wp rfl <| Wp rfl <| Wv rfl (ov_pickF rfl rfl) <| Wv rfl (ov_pickF rfl rfl) ?_
      have ob273 := (ob242.step0 s250)
      obtain ⟨r274, hr275, HF⟩ := bind_some HF
      refine Wc rfl (oc_func (vs := [pt b1 0, .bool false]) rfl t_ent_83) (ok_ref02_Size_Right _ hr275 S251.sub ob273) ?_
      rintro v276 w277 ⟨h278, s279, rfl, ob280⟩
      have S281 := S251.trans s279 (in_cons (.inl (by simp)) in_nil)
      refine WL.nil ?_
      have ob317 := ((ob243.step0 s250).step1 s279 (Ne.symm ne19))
      refine WC.to [0, 2, 4] _ rfl ?_
      exact J314 ⟨h278, r274, HF, rfl, S281, (s250.le).trans s279.le, ob280, ob317⟩
     refine Wp rfl <| Wp rfl <| Wp rfl <| Wv rfl (ov_pickF rfl rfl) <| Wm rfl rfl <| Wm rfl rfl <| Wv rfl (ov_not rfl) <| Wm rfl rfl <| WL.sF 137 HF rfl (fun HF => ?_) (fun HF => ?_)
     ·refine Wv rfl (ov_fieldAddr rfl t_field_47_4) <| Wv rfl (ov_load1 rfl t_agg_9 (OB.cell ob243 (j := 4) rfl)) <| Wv rfl (ov_eqlS rfl rfl) <| Wv rfl (ov_pickT rfl rfl) <| Wv rfl (ov_pickF rfl rfl) ?_
      obtain ⟨r283, hr284, HF⟩ := bind_some HF
      refine Wc rfl (oc_func (vs := [pt b1 0, .bool (bEq x7.f b'110)]) rfl t_ent_83) (ok_ref02_Size_Right _ hr284 S240.sub ob242) ?_
      rintro v285 w286 ⟨h287, s288, rfl, ob289⟩
      have S290 := S240.trans s288 (in_cons (.inl (by simp)) in_nil)
      refine WL.nil ?_
      have ob318 := (ob243.step1 s288 (Ne.symm ne19))
      refine WC.to [0, 2, 4] _ rfl ?_
      exact J314 ⟨h287, r283, HF, rfl, S290, s288.le, ob289, ob318⟩
     refine Wp rfl <| Wp rfl <| Wp rfl <| Wv rfl (ov_pickF rfl rfl) <| Wv rfl (ov_pickF rfl rfl) ?_
     obtain ⟨r291, hr292, HF⟩ := bind_some HF
     refine Wc rfl (oc_func (vs := [pt b1 0, .bool false]) rfl t_ent_83) (ok_ref02_Size_Right _ hr292 S240.sub ob242) ?_
     rintro v293 w294 ⟨h295, s296, rfl, ob297⟩
     have S298 := S240.trans s296 (in_cons (.inl (by simp)) in_nil)
     refine WL.nil ?_
     have ob319 := (ob243.step1 s296 (Ne.symm ne19))
     refine WC.to [0, 2, 4] _ rfl ?_
     exact J314 ⟨h295, r291, HF, rfl, S298, s296.le, ob297, ob319⟩
    intro J320
    refine WC.region <| Wm rfl rfl <| Wm rfl rfl <| Wm rfl rfl <| WL.sF 112 HF rfl (fun HF => ?_) (fun HF => ?_)
    ·refine Wv rfl (ov_fieldAddr rfl t_field_47_3) <| Wv rfl (ov_load1 rfl t_agg_9 (OB.cell ob181 (j := 3) rfl)) ?_
     obtain ⟨r183, hr184, HF⟩ := bind_some HF
     refine Wc rfl (oc_func (vs := [.string x7.s]) rfl t_ent_84) (ok_ref01_IsName _ hr184 S178.sub) ?_
     rintro _ w186 ⟨h187, s188, rfl⟩
     have S189 := S178.trans0 s188
     refine Wv rfl (ov_pickT rfl rfl) <| Wm rfl rfl <| WL.sF 117 HF rfl (fun HF => ?_) (fun HF => ?_)
     ·refine Wp rfl <| Wp rfl <| Wp rfl <| Wp rfl <| Wp rfl <| Wp rfl <| Wp rfl <| Wv rfl (ov_pickT rfl rfl) ?_
      have ob191 := (ob180.step0 s188)
      obtain ⟨r192, hr193, HF⟩ := bind_some HF
      refine Wc rfl (oc_func (vs := [pt b1 0, .bool true]) rfl t_ent_83) (ok_ref02_Size_Right _ hr193 S189.sub ob191) ?_
      rintro v194 w195 ⟨h196, s197, rfl, ob198⟩
      have S199 := S189.trans s197 (in_cons (.inl (by simp)) in_nil)
      refine WL.nil ?_
      have ob321 := ((ob181.step0 s188).step1 s197 (Ne.symm ne19))
      refine WC.to [0, 2, 4, 8] _ rfl ?_
      exact J320 ⟨h196, r192, HF, rfl, S199, (s188.le).trans s197.le, ob198, ob321⟩
     refine Wm rfl rfl <| Wv rfl (ov_not rfl) <| Wm rfl rfl <| WL.sF 120 HF rfl (fun HF => ?_) (fun HF => ?_)
     ·refine Wv rfl (ov_fieldAddr rfl t_field_47_3) ?_
      have ob201 := (ob181.step0 s188)
      refine Wv rfl (ov_load1 rfl t_agg_9 (OB.cell ob201 (j := 3) rfl)) <| Wv rfl (ov_eqlS rfl rfl) <| Wv rfl (ov_pickT rfl rfl) <| Wv rfl (ov_pickF rfl rfl) ?_
      have ob202 := (ob180.step0 s188)
      obtain ⟨r203, hr204, HF⟩ := bind_some HF
      refine Wc rfl (oc_func (vs := [pt b1 0, .bool (bEq x7.s b'110)]) rfl t_ent_83) (ok_ref02_Size_Right _ hr204 S189.sub ob202) ?_
      rintro v205 w206 ⟨h207, s208, rfl, ob209⟩
      have S210 := S189.trans s208 (in_cons (.inl (by simp)) in_nil)
      refine WL.nil ?_
      have ob322 := (ob201.step1 s208 (Ne.symm ne19))
      refine WC.to [0, 2, 4, 8] _ rfl ?_
      exact J320 ⟨h207, r203, HF, rfl, S210, (s188.le).trans s208.le, ob209, ob322⟩
     refine Wp rfl <| Wp rfl <| Wp rfl <| Wv rfl (ov_pickF rfl rfl) <| Wv rfl (ov_pickF rfl rfl) ?_
     have ob211 := (ob180.step0 s188)
     obtain ⟨r212, hr213, HF⟩ := bind_some HF
     refine Wc rfl (oc_func (vs := [pt b1 0, .bool false]) rfl t_ent_83) (ok_ref02_Size_Right _ hr213 S189.sub ob211) ?_
     rintro v214 w215 ⟨h216, s217, rfl, ob218⟩
     have S219 := S189.trans s217 (in_cons (.inl (by simp)) in_nil)
     refine WL.nil ?_
     have ob323 := ((ob181.step0 s188).step1 s217 (Ne.symm ne19))
     refine WC.to [0, 2, 4, 8] _ rfl ?_
     exact J320 ⟨h216, r212, HF, rfl, S219, (s188.le).trans s217.le, ob218, ob323⟩
    refine Wp rfl <| Wp rfl <| Wp rfl <| Wv rfl (ov_pickF rfl rfl) <| Wm rfl rfl <| Wm rfl rfl <| Wv rfl (ov_not rfl) <| Wm rfl rfl <| WL.sF 120 HF rfl (fun HF => ?_) (fun HF => ?_)
    ·refine Wv rfl (ov_fieldAddr rfl t_field_47_3) <| Wv rfl (ov_load1 rfl t_agg_9 (OB.cell ob181 (j := 3) rfl)) <| Wv rfl (ov_eqlS rfl rfl) <| Wv rfl (ov_pickT rfl rfl) <| Wv rfl (ov_pickF rfl rfl) ?_
     obtain ⟨r221, hr222, HF⟩ := bind_some HF
     refine Wc rfl (oc_func (vs := [pt b1 0, .bool (bEq x7.s b'110)]) rfl t_ent_83) (ok_ref02_Size_Right _ hr222 S178.sub ob180) ?_
     rintro v223 w224 ⟨h225, s226, rfl, ob227⟩
     have S228 := S178.trans s226 (in_cons (.inl (by simp)) in_nil)
     refine WL.nil ?_
     have ob324 := (ob181.step1 s226 (Ne.symm ne19))
     refine WC.to [0, 2, 4, 8] _ rfl ?_
     exact J320 ⟨h225, r221, HF, rfl, S228, s226.le, ob227, ob324⟩
    refine Wp rfl <| Wp rfl <| Wp rfl <| Wv rfl (ov_pickF rfl rfl) <| Wv rfl (ov_pickF rfl rfl) ?_
    obtain ⟨r229, hr230, HF⟩ := bind_some HF
    refine Wc rfl (oc_func (vs := [pt b1 0, .bool false]) rfl t_ent_83) (ok_ref02_Size_Right _ hr230 S178.sub ob180) ?_
    rintro v231 w232 ⟨h233, s234, rfl, ob235⟩
    have S236 := S178.trans s234 (in_cons (.inl (by simp)) in_nil)
    refine WL.nil ?_
    have ob325 := (ob181.step1 s234 (Ne.symm ne19))
    refine WC.to [0, 2, 4, 8] _ rfl ?_
    exact J320 ⟨h233, r229, HF, rfl, S236, s234.le, ob235, ob325⟩
   intro J326
   refine WC.region <| Wm rfl rfl <| Wv rfl (ov_fieldAddr rfl t_field_47_5) <| Wv rfl (ov_load1 rfl t_agg_45 (OB.cell ob136 (j := 5) rfl)) ?_
   obtain ⟨A137, c138, rfl, rs139⟩ := RS.form (rs13.mono ((s17.le).trans ((le26).trans ((s35.le).trans le129))))
   refine Wv rfl (ov_lenL rfl t_slice_45) <| Wm rfl rfl <| Wv rfl (ov_eql rfl rfl) <| Wm rfl rfl <| WL.sF 94 HF rfl (fun HF => ?_) (fun HF => ?_)
   ·refine Wv rfl (ov_fieldAddr rfl t_field_47_0) <| Wv rfl (ov_load1 rfl t_agg_3 (OB.cell ob136 (j := 0) rfl)) <| Wv rfl (ov_eql rfl rfl) <| Wm rfl rfl <| WL.sF 98 HF rfl (fun HF => ?_) (fun HF => ?_)
    ·refine Wp rfl <| Wp rfl <| Wp rfl <| Wp rfl <| Wp rfl <| Wp rfl <| Wp rfl <| Wp rfl <| Wv rfl (ov_pickT rfl rfl) <| Wv rfl (ov_pickT rfl rfl) ?_
     obtain ⟨r142, hr143, HF⟩ := bind_some HF
     refine Wc rfl (oc_func (vs := [pt b1 0, .bool true]) rfl t_ent_83) (ok_ref02_Size_Right _ hr143 S130.sub ob135) ?_
     rintro v144 w145 ⟨h146, s147, rfl, ob148⟩
     have S149 := S130.trans s147 (in_cons (.inl (by simp)) in_nil)
     refine WL.nil ?_
     have ob327 := (ob136.step1 s147 (Ne.symm ne19))
     refine WC.to [0, 2, 4, 7, 8] _ rfl ?_
     exact J326 ⟨h146, r142, HF, rfl, S149, s147.le, ob148, ob327⟩
    refine Wv rfl (ov_fieldAddr rfl t_field_47_1) <| Wv rfl (ov_load1 rfl t_agg_3 (OB.cell ob136 (j := 1) rfl)) <| Wv rfl (ov_eql rfl rfl) <| Wm rfl rfl <| WL.sF 102 HF rfl (fun HF => ?_) (fun HF => ?_)
    ·refine Wv rfl (ov_fieldAddr rfl t_field_47_2) <| Wv rfl (ov_load1 rfl t_agg_3 (OB.cell ob136 (j := 2) rfl)) <| Wv rfl (ov_eql rfl rfl) <| Wv rfl (ov_pickT rfl rfl) <| Wv rfl (ov_pickF rfl rfl) <| Wv rfl (ov_pickT rfl rfl) ?_
     obtain ⟨r151, hr152, HF⟩ := bind_some HF
     refine Wc rfl (oc_func (vs := [pt b1 0, .bool ((x7.n : Int) == 0)]) rfl t_ent_83) (ok_ref02_Size_Right _ hr152 S130.sub ob135) ?_
     rintro v153 w154 ⟨h155, s156, rfl, ob157⟩
     have S158 := S130.trans s156 (in_cons (.inl (by simp)) in_nil)
     refine WL.nil ?_
     have ob328 := (ob136.step1 s156 (Ne.symm ne19))
     refine WC.to [0, 2, 4, 7, 8] _ rfl ?_
     exact J326 ⟨h155, r151, HF, rfl, S158, s156.le, ob157, ob328⟩
    refine Wp rfl <| Wp rfl <| Wp rfl <| Wv rfl (ov_pickF rfl rfl) <| Wv rfl (ov_pickF rfl rfl) <| Wv rfl (ov_pickT rfl rfl) ?_
    obtain ⟨r159, hr160, HF⟩ := bind_some HF
    refine Wc rfl (oc_func (vs := [pt b1 0, .bool false]) rfl t_ent_83) (ok_ref02_Size_Right _ hr160 S130.sub ob135) ?_
    rintro v161 w162 ⟨h163, s164, rfl, ob165⟩
    have S166 := S130.trans s164 (in_cons (.inl (by simp)) in_nil)
    refine WL.nil ?_
    have ob329 := (ob136.step1 s164 (Ne.symm ne19))
    refine WC.to [0, 2, 4, 7, 8] _ rfl ?_
    exact J326 ⟨h163, r159, HF, rfl, S166, s164.le, ob165, ob329⟩
   refine Wp rfl <| Wp rfl <| Wp rfl <| Wp rfl <| Wp rfl <| Wp rfl <| Wp rfl <| Wp rfl <| Wp rfl <| Wp rfl <| Wp rfl <| Wp rfl <| Wp rfl <| Wv rfl (ov_pickF rfl rfl) ?_
   obtain ⟨r167, hr168, HF⟩ := bind_some HF
   refine Wc rfl (oc_func (vs := [pt b1 0, .bool false]) rfl t_ent_83) (ok_ref02_Size_Right _ hr168 S130.sub ob135) ?_
   rintro v169 w170 ⟨h171, s172, rfl, ob173⟩
   have S174 := S130.trans s172 (in_cons (.inl (by simp)) in_nil)
   refine WL.nil ?_
   have ob330 := (ob136.step1 s172 (Ne.symm ne19))
   refine WC.to [0, 2, 4, 7, 8] _ rfl ?_
   exact J326 ⟨h171, r167, HF, rfl, S174, s172.le, ob173, ob330⟩
  intro J331
  refine WC.block <| WC.seq <| WC.region <| Wv rfl (ov_fieldAddr rfl t_field_47_0) ?_
  have ob38 := (ob29.step1 s35 (Ne.symm ne19))
  refine Wv rfl (ov_load1 rfl t_agg_3 (OB.cell ob38 (j := 0) rfl)) <| Wv rfl (ov_eql rfl rfl) <| Wa rfl rfl <| WL.nil <| WQ.seqN <| WC.cF HF rfl (fun HF => ?_) (fun HF => ?_)
  ·refine WC.seq <| WC.region <| Wa rfl rfl <| WL.nil <| WQ.seqN <| WC.region <| Wm rfl rfl <| Wv rfl (ov_fieldAddr rfl t_field_47_2) <| Wv rfl (ov_load1 rfl t_agg_3 (OB.cell ob38 (j := 2) rfl)) <| Wv rfl (ov_geq rfl rfl) <| Wm rfl rfl <| WL.sF 34 HF rfl (fun HF => ?_) (fun HF => ?_)
   ·refine Wv rfl (ov_fieldAddr rfl t_field_47_2) <| Wv rfl (ov_load1 rfl t_agg_3 (OB.cell ob38 (j := 2) rfl)) <| Wv rfl (ov_leq rfl rfl) <| Wv rfl (ov_pickT rfl rfl) <| Wm rfl rfl <| WL.sF 39 HF rfl (fun HF => ?_) (fun HF => ?_)
    ·refine Wv rfl (ov_fieldAddr rfl t_field_47_1) <| Wv rfl (ov_load1 rfl t_agg_3 (OB.cell ob38 (j := 1) rfl)) <| Wv rfl (ov_eql rfl rfl) <| Wm rfl rfl <| WL.sF 43 HF rfl (fun HF => ?_) (fun HF => ?_)
     ·refine Wp rfl <| Wp rfl <| Wp rfl <| Wv rfl (ov_pickT rfl rfl) <| Wm rfl rfl <| Wp rfl <| Wp rfl <| Wp rfl <| Wp rfl <| Wp rfl <| Wp rfl <| Wp rfl <| Wp rfl <| Wv rfl (ov_pickT rfl rfl) <| Wv rfl (ov_pickT rfl rfl) ?_
      obtain ⟨r43, hr44, HF⟩ := bind_some HF
      refine Wc rfl (oc_func (vs := [pt b1 0, .bool true]) rfl t_ent_83) (ok_ref02_Size_Right _ hr44 S37.sub ob36) ?_
      rintro v45 w46 ⟨h47, s48, rfl, ob49⟩
      have S50 := S37.trans s48 (in_cons (.inl (by simp)) in_nil)
      refine WL.nil <| WQ.blockN ?_
      have ob332 := (ob38.step1 s48 (Ne.symm ne19))
      refine WC.to [0, 2, 4, 6, 7, 8] _ rfl ?_
      exact J331 ⟨h47, 0, false, false, r43, HF, rfl, S50, s48.le, ob49, ob332⟩
     refine Wv rfl (ov_fieldAddr rfl t_field_47_1) <| Wv rfl (ov_load1 rfl t_agg_3 (OB.cell ob38 (j := 1) rfl)) <| Wv rfl (ov_eql rfl rfl) <| Wv rfl (ov_pickF rfl rfl) <| Wm rfl rfl <| WL.sF 48 HF rfl (fun HF => ?_) (fun HF => ?_)
     ·refine Wp rfl <| Wp rfl <| Wp rfl <| Wp rfl <| Wp rfl <| Wp rfl <| Wp rfl <| Wp rfl <| Wv rfl (ov_pickT rfl rfl) <| Wv rfl (ov_pickT rfl rfl) ?_
      obtain ⟨r52, hr53, HF⟩ := bind_some HF
      refine Wc rfl (oc_func (vs := [pt b1 0, .bool true]) rfl t_ent_83) (ok_ref02_Size_Right _ hr53 S37.sub ob36) ?_
      rintro v54 w55 ⟨h56, s57, rfl, ob58⟩
      have S59 := S37.trans s57 (in_cons (.inl (by simp)) in_nil)
      refine WL.nil <| WQ.blockN ?_
      have ob333 := (ob38.step1 s57 (Ne.symm ne19))
      refine WC.to [0, 2, 4, 6, 7, 8] _ rfl ?_
      exact J331 ⟨h56, 0, false, false, r52, HF, rfl, S59, s57.le, ob58, ob333⟩
     refine Wv rfl (ov_fieldAddr rfl t_field_47_1) <| Wv rfl (ov_load1 rfl t_agg_3 (OB.cell ob38 (j := 1) rfl)) <| Wv rfl (ov_eql rfl rfl) <| Wm rfl rfl <| WL.sF 52 HF rfl (fun HF => ?_) (fun HF => ?_)
     ·refine Wv rfl (ov_fieldAddr rfl t_field_47_2) <| Wv rfl (ov_load1 rfl t_agg_3 (OB.cell ob38 (j := 2) rfl)) <| Wv rfl (ov_leq rfl rfl) <| Wv rfl (ov_pickT rfl rfl) <| Wv rfl (ov_pickF rfl rfl) <| Wv rfl (ov_pickT rfl rfl) ?_
      obtain ⟨r61, hr62, HF⟩ := bind_some HF
      refine Wc rfl (oc_func (vs := [pt b1 0, .bool (decide ((x7.n : Int) ≤ 1))]) rfl t_ent_83) (ok_ref02_Size_Right _ hr62 S37.sub ob36) ?_
      rintro v63 w64 ⟨h65, s66, rfl, ob67⟩
      have S68 := S37.trans s66 (in_cons (.inl (by simp)) in_nil)
      refine WL.nil <| WQ.blockN ?_
      have ob334 := (ob38.step1 s66 (Ne.symm ne19))
      refine WC.to [0, 2, 4, 6, 7, 8] _ rfl ?_
      exact J331 ⟨h65, 0, false, false, r61, HF, rfl, S68, s66.le, ob67, ob334⟩
     refine Wp rfl <| Wp rfl <| Wp rfl <| Wv rfl (ov_pickF rfl rfl) <| Wv rfl (ov_pickF rfl rfl) <| Wv rfl (ov_pickT rfl rfl) ?_
     obtain ⟨r69, hr70, HF⟩ := bind_some HF
     refine Wc rfl (oc_func (vs := [pt b1 0, .bool false]) rfl t_ent_83) (ok_ref02_Size_Right _ hr70 S37.sub ob36) ?_
     rintro v71 w72 ⟨h73, s74, rfl, ob75⟩
     have S76 := S37.trans s74 (in_cons (.inl (by simp)) in_nil)
     refine WL.nil <| WQ.blockN ?_
     have ob335 := (ob38.step1 s74 (Ne.symm ne19))
     refine WC.to [0, 2, 4, 6, 7, 8] _ rfl ?_
     exact J331 ⟨h73, 0, false, false, r69, HF, rfl, S76, s74.le, ob75, ob335⟩
    refine Wp rfl <| Wp rfl <| Wp rfl <| Wp rfl <| Wp rfl <| Wp rfl <| Wp rfl <| Wp rfl <| Wp rfl <| Wp rfl <| Wp rfl <| Wp rfl <| Wp rfl <| Wp rfl <| Wp rfl <| Wp rfl <| Wp rfl <| Wp rfl <| Wv rfl (ov_pickF rfl rfl) ?_
    obtain ⟨r77, hr78, HF⟩ := bind_some HF
    refine Wc rfl (oc_func (vs := [pt b1 0, .bool false]) rfl t_ent_83) (ok_ref02_Size_Right _ hr78 S37.sub ob36) ?_
    rintro v79 w80 ⟨h81, s82, rfl, ob83⟩
    have S84 := S37.trans s82 (in_cons (.inl (by simp)) in_nil)
    refine WL.nil <| WQ.blockN ?_
    have ob336 := (ob38.step1 s82 (Ne.symm ne19))
    refine WC.to [0, 2, 4, 6, 7, 8] _ rfl ?_
    exact J331 ⟨h81, 0, false, false, r77, HF, rfl, S84, s82.le, ob83, ob336⟩
   refine Wp rfl <| Wp rfl <| Wp rfl <| Wv rfl (ov_pickF rfl rfl) <| Wm rfl rfl <| Wp rfl <| Wp rfl <| Wp rfl <| Wp rfl <| Wp rfl <| Wp rfl <| Wp rfl <| Wp rfl <| Wp rfl <| Wp rfl <| Wp rfl <| Wp rfl <| Wp rfl <| Wp rfl <| Wp rfl <| Wp rfl <| Wp rfl <| Wp rfl <| Wv rfl (ov_pickF rfl rfl) ?_
   obtain ⟨r85, hr86, HF⟩ := bind_some HF
   refine Wc rfl (oc_func (vs := [pt b1 0, .bool false]) rfl t_ent_83) (ok_ref02_Size_Right _ hr86 S37.sub ob36) ?_
   rintro v87 w88 ⟨h89, s90, rfl, ob91⟩
   have S92 := S37.trans s90 (in_cons (.inl (by simp)) in_nil)
   refine WL.nil <| WQ.blockN ?_
   have ob337 := (ob38.step1 s90 (Ne.symm ne19))
   refine WC.to [0, 2, 4, 6, 7, 8] _ rfl ?_
   exact J331 ⟨h89, 0, false, false, r85, HF, rfl, S92, s90.le, ob91, ob337⟩
  refine WC.seq <| WC.region <| Wv rfl (ov_fieldAddr rfl t_field_47_0) <| Wv rfl (ov_load1 rfl t_agg_3 (OB.cell ob38 (j := 0) rfl)) <| Wv rfl (ov_eql rfl rfl) <| Wa rfl rfl <| WL.nil <| WQ.seqN <| WC.cF HF rfl (fun HF => ?_) (fun HF => ?_)
  ·refine WC.region <| Wa rfl rfl <| Wa rfl rfl <| WL.nil <| WQ.blockN <| WC.to [0, 2, 4, 6, 7, 8] _ rfl ?_
   exact J331 ⟨h34, 0, true, false, r30.2.2, HF, rfl, S37, Hle.refl _, ob36, ob38⟩
  refine WC.seq <| WC.region <| Wv rfl (ov_fieldAddr rfl t_field_47_0) <| Wv rfl (ov_load1 rfl t_agg_3 (OB.cell ob38 (j := 0) rfl)) <| Wv rfl (ov_eql rfl rfl) <| Wa rfl rfl <| WL.nil <| WQ.seqN <| WC.cF HF rfl (fun HF => ?_) (fun HF => ?_)
  ·refine WC.region <| Wa rfl rfl <| Wa rfl rfl <| Wa rfl rfl <| WL.nil <| WQ.blockN <| WC.to [0, 2, 4, 6, 7, 8] _ rfl ?_
   exact J331 ⟨h34, 0, true, true, r30.2.2, HF, rfl, S37, Hle.refl _, ob36, ob38⟩
  refine WC.seq <| WC.region <| Wv rfl (ov_fieldAddr rfl t_field_47_0) <| Wv rfl (ov_load1 rfl t_agg_3 (OB.cell ob38 (j := 0) rfl)) <| Wv rfl (ov_eql rfl rfl) <| Wa rfl rfl <| WL.nil <| WQ.seqN <| WC.cF HF rfl (fun HF => ?_) (fun HF => ?_)
  ·refine WC.region <| Wa rfl rfl <| Wa rfl rfl <| WL.nil <| WQ.blockN <| WC.to [0, 2, 4, 6, 7, 8] _ rfl ?_
   exact J331 ⟨h34, 1, true, false, r30.2.2, HF, rfl, S37, Hle.refl _, ob36, ob38⟩
  refine WC.seq <| WC.region <| Wv rfl (ov_fieldAddr rfl t_field_47_0) <| Wv rfl (ov_load1 rfl t_agg_3 (OB.cell ob38 (j := 0) rfl)) <| Wv rfl (ov_eql rfl rfl) <| Wa rfl rfl <| WL.nil <| WQ.seqN <| WC.cF HF rfl (fun HF => ?_) (fun HF => ?_)
  ·refine WC.region <| Wv rfl (ov_fieldAddr rfl t_field_47_5) <| Wv rfl (ov_load1 rfl t_agg_45 (OB.cell ob38 (j := 5) rfl)) ?_
   obtain ⟨A97, c98, rfl, rs99⟩ := RS.form (rs13.mono ((s17.le).trans ((le26).trans s35.le)))
   refine Wv rfl (ov_lenL rfl t_slice_45) <| Wa rfl rfl <| Wa rfl rfl <| WL.nil <| WQ.blockN <| WC.to [0, 2, 4, 6, 7, 8] _ rfl ?_
   exact J331 ⟨h34, (x7.args.length : Int), true, false, r30.2.2, HF, rfl, S37, Hle.refl _, ob36, ob38⟩
  refine WC.join (fun E w102 => ∃ (h101 : Hp) (x105 : Bool), ref02_Size_Expr_j2 k (tie_ref02_Size_Expr k) x7 x10 r30 x105 = some r ∧ E = [(0, pt b1 0), (2, vi x10), (4, pt b15 0), (6, vi 2), (7, .bool false), (8, .bool false), (79, .bool x105)] ∧ Stp [b1] w0 h0 w102 h101 ∧ Hle h34 h101 ∧ OB w102 h101 b1 T2 [vi r30.1, vi r30.2.1, .bool r30.2.2] ∧ OB w102 h101 b15 47 [vi x7.op, vi x7.kind, vi x7.n, .string x7.s, .string x7.f, v12]) ?_ ?_
  ·rintro E w102 ⟨h101, x105, HF, rfl, S104, le103, ob106, ob107⟩
   refine WC.cF HF rfl (fun HF => ?_) (fun HF => ?_)
   ·refine WC.region <| Wa rfl rfl <| WL.nil <| WQ.blockN <| WC.to [0, 2, 4, 6, 7, 8] _ rfl ?_
    exact J331 ⟨h101, 1, false, false, r30.2.2, HF, rfl, S104, le103, ob106, ob107⟩
   refine WC.region <| Wm rfl rfl <| Wv rfl (ov_fieldAddr rfl t_field_47_0) <| Wv rfl (ov_load1 rfl t_agg_3 (OB.cell ob107 (j := 0) rfl)) <| Wv rfl (ov_geq rfl rfl) <| Wm rfl rfl <| WL.sF 20 HF rfl (fun HF => ?_) (fun HF => ?_)
   ·refine Wv rfl (ov_fieldAddr rfl t_field_47_0) <| Wv rfl (ov_load1 rfl t_agg_3 (OB.cell ob107 (j := 0) rfl)) <| Wv rfl (ov_leq rfl rfl) <| Wv rfl (ov_pickT rfl rfl) ?_
    obtain ⟨r110, hr111, HF⟩ := bind_some HF
    refine Wc rfl (oc_func (vs := [pt b1 0, .bool (decide ((x7.op : Int) ≤ 21))]) rfl t_ent_83) (ok_ref02_Size_Right _ hr111 S104.sub ob106) ?_
    rintro v112 w113 ⟨h114, s115, rfl, ob116⟩
    have S117 := S104.trans s115 (in_cons (.inl (by simp)) in_nil)
    refine WL.nil <| WQ.blockN ?_
    have ob338 := (ob107.step1 s115 (Ne.symm ne19))
    refine WC.to [0, 2, 4, 6, 7, 8] _ rfl ?_
    exact J331 ⟨h114, 2, false, false, r110, HF, rfl, S117, (le103).trans s115.le, ob116, ob338⟩
   refine Wp rfl <| Wp rfl <| Wp rfl <| Wv rfl (ov_pickF rfl rfl) ?_
   obtain ⟨r118, hr119, HF⟩ := bind_some HF
   refine Wc rfl (oc_func (vs := [pt b1 0, .bool false]) rfl t_ent_83) (ok_ref02_Size_Right _ hr119 S104.sub ob106) ?_
   rintro v120 w121 ⟨h122, s123, rfl, ob124⟩
   have S125 := S104.trans s123 (in_cons (.inl (by simp)) in_nil)
   refine WL.nil <| WQ.blockN ?_
   have ob339 := (ob107.step1 s123 (Ne.symm ne19))
   refine WC.to [0, 2, 4, 6, 7, 8] _ rfl ?_
   exact J331 ⟨h122, 2, false, false, r118, HF, rfl, S125, (le103).trans s123.le, ob124, ob339⟩
  intro J126
  refine WC.region <| Wv rfl (ov_fieldAddr rfl t_field_47_0) <| Wv rfl (ov_load1 rfl t_agg_3 (OB.cell ob38 (j := 0) rfl)) <| Wv rfl (ov_eql rfl rfl) <| Wm rfl rfl <| WL.sF 83 HF rfl (fun HF => ?_) (fun HF => ?_)
  ·refine Wp rfl <| Wp rfl <| Wp rfl <| Wv rfl (ov_pickT rfl rfl) <| Wa rfl rfl <| WL.nil <| WC.to [0, 2, 4, 6, 7, 8, 79] _ rfl ?_
   exact J126 ⟨h34, true, HF, rfl, S37, Hle.refl _, ob36, ob38⟩
  refine Wv rfl (ov_fieldAddr rfl t_field_47_0) <| Wv rfl (ov_load1 rfl t_agg_3 (OB.cell ob38 (j := 0) rfl)) <| Wv rfl (ov_eql rfl rfl) <| Wv rfl (ov_pickF rfl rfl) <| Wa rfl rfl <| WL.nil <| WC.to [0, 2, 4, 6, 7, 8, 79] _ rfl ?_
  exact J126 ⟨h34, (x7.op : Int) == 7, HF, rfl, S37, Hle.refl _, ob36, ob38⟩
 intro J340
 refine WC.seq <| WC.region <| Wm rfl rfl <| Wv rfl (ov_nilCheck rfl) <| Wv rfl (ov_fieldAddr rfl t_field_43_2) ?_
 have ob22 := (ob6.step0 s17)
 refine Wv rfl (ov_load1 rfl t_agg_4 (OB.cell ob22 (j := 2) rfl)) <| WL.nil <| WQ.seqN <| WC.cF HF rfl (fun HF => ?_) (fun HF => ?_)
 ·refine WC.ret <| WQ.thenRet <| WQ.ret0 rfl ?_
  obtain rfl := Option.some.inj HF
  exact ⟨_, rfl, h0, S21, rfl, ob22⟩
 refine WC.skip <| WC.to [0, 2, 4] _ rfl ?_
 exact J340 ⟨h0, HF, rfl, S21, Hle.refl _, ob22, ob18⟩
theorem s_ref02_Size_Exprs (k : Nat) (IH : ∀ j, j ≤ k → C_ref02_Size_Expr (tie_ref02_Size_Expr j).ref02_Size_Expr ∧ C_ref02_Size_Exprs (tie_ref02_Size_Expr j).ref02_Size_Exprs) : C_ref02_Size_Exprs (m_ref02_Size_Exprs k (tie_ref02_Size_Expr k)) := by
 intro x3 x4 x5 xs7 x10 r HF w0 h0 b1 T2 v8 hs0 rs9 ob6
 have S0 : Stp [b1] w0 h0 w0 h0 := Stp.refl hs0 _
 have lt11 : b1 < w0.heap.size := OB.lt ob6
 refine enter (n := 27) Tryz.func85 rfl Tryz.ntmps85 rfl [(0, pt b1 0), (1, v8), (2, vi x10)] rfl <| WC.seq <| WC.region <| Wa rfl rfl <| WL.nil <| WQ.seqN <| WC.block <| WC.loop <| WP.to [0, 1, 2, 6] [(0, pt b1 0), (1, v8), (2, vi x10), (6, vi 0)] rfl <| WP_rule (K := k) (fun j E w13 => ∃ (h12 : Hp) (x16 : Int) (x17 : Int) (x18 : Int) (x19 : Bool), (tie_ref02_Size_Expr j).ref02_Size_Exprs_l1 xs7 x10 x16 x17 x18 x19 = some r ∧ E = [(0, pt b1 0), (1, v8), (2, vi x10), (6, vi x16)] ∧ Stp [b1] w0 h0 w13 h12 ∧ Hle h0 h12 ∧ OB w13 h12 b1 T2 [vi x17, vi x18, .bool x19]) ?_ ?_ (j := k) (Nat.le_refl _) ?_
 ·rintro E w13 ⟨_, _, _, _, _, HF, _⟩; cases HF
 ·rintro j21 hj23 IHL22 E w13 ⟨h12, x16, x17, x18, x19, HF, rfl, S15, le14, ob20⟩
  refine WC.join (fun E w37 => ∃ (h36 : Hp), ref02_Size_Exprs_j3 j21 (tie_ref02_Size_Expr j21) xs7 x10 x16 x17 x18 x19 = some r ∧ E = [(0, pt b1 0), (1, v8), (2, vi x10), (6, vi x16)] ∧ Stp [b1] w0 h0 w37 h36 ∧ Hle h12 h36 ∧ OB w37 h36 b1 T2 [vi x17, vi x18, .bool x19]) ?_ ?_
  ·rintro E w37 ⟨h36, HF, rfl, S39, le38, ob40⟩
   refine WC.seq <| WC.block <| WC.region <| Wm rfl rfl <| Wm rfl rfl <| Wm rfl rfl ?_
   obtain ⟨A41, c42, rfl, rs43⟩ := RS.form (rs9.mono ((le14).trans le38))
   obtain ⟨e44, he45, HF⟩ := bind_some HF
   obtain ⟨b46, o47, rfl, h49, h50, ra48⟩ := RS.atO rs43 he45
   obtain ⟨cs51, r52, hc53⟩ := ra48
   refine Wv rfl (ov_indexAddr rfl rfl t_slice_45 t_size_47 h49 h50) <| Wv rfl (ov_loadN (cs := cs51) rfl t_agg_47 (by rw [Rp.len r52]; exact t_size_47) (fun j v hv => S39.sub.at_ _ _ _ (hc53 j v hv))) <| Wm rfl rfl ?_
   obtain ⟨r54, hr55, HF⟩ := bind_some HF
   refine Wc rfl (oc_func (vs := [pt b1 0, .agg cs51.toArray, vi x10]) rfl t_ent_49) ((IH _ (Nat.le_trans (Nat.le_of_succ_le hj23) (Nat.le_refl _))).1 hr55 S39.sub r52 ob40) ?_
   rintro v56 w57 ⟨h58, s59, rfl, ob60⟩
   have S61 := S39.trans s59 (in_cons (.inl (by simp)) in_nil)
   refine WL.nil <| WQ.blockN <| WQ.seqN <| WC.region <| Wm rfl rfl <| Wv rfl (ov_add rfl rfl) <| Wa rfl rfl <| WL.nil <| WQ.loopN <| WP.to [0, 1, 2, 6] [(0, pt b1 0), (1, sl b46 o47 (xs7).length c42), (2, vi x10), (6, vi (IntKind.i64.wrap (x16 + 1)))] rfl ?_
   exact IHL22 j21 (Nat.le_refl _) _ _ ⟨h58, IntKind.i64.wrap (x16 + 1), r54.1, r54.2.1, r54.2.2, HF, rfl, S61, (le14).trans ((le38).trans s59.le), ob60⟩
  intro J62
  refine WC.join (fun E w29 => ∃ (h28 : Hp) (x32 : Bool), ref02_Size_Exprs_j2 j21 (tie_ref02_Size_Expr j21) xs7 x10 x16 x17 x18 x19 x32 = some r ∧ E = [(0, pt b1 0), (1, v8), (2, vi x10), (6, vi x16), (17, .bool x32)] ∧ Stp [b1] w0 h0 w29 h28 ∧ Hle h12 h28 ∧ OB w29 h28 b1 T2 [vi x17, vi x18, .bool x19]) ?_ ?_
  ·rintro E w29 ⟨h28, x32, HF, rfl, S31, le30, ob33⟩
   refine WC.cF HF rfl (fun HF => ?_) (fun HF => ?_)
   ·refine WC.skip <| WC.to [0, 1, 2, 6] _ rfl ?_
    exact J62 ⟨h28, HF, rfl, S31, le30, ob33⟩
   refine WC.exit <| WQ.thenExit <| WQ.thenExit <| WQ.blockHit <| WQ.end0 rfl ?_
   obtain rfl := Option.some.inj HF
   exact ⟨_, rfl, h28, S31, rfl, ob33⟩
  intro J35
  refine WC.region <| Wm rfl rfl <| Wm rfl rfl ?_
  obtain ⟨A24, c25, rfl, rs26⟩ := RS.form (rs9.mono (le14))
  refine Wv rfl (ov_lenL rfl t_slice_45) <| Wv rfl (ov_lss rfl rfl) <| Wm rfl rfl <| WL.sF 11 HF rfl (fun HF => ?_) (fun HF => ?_)
  ·refine Wm rfl rfl <| Wv rfl (ov_nilCheck rfl) <| Wv rfl (ov_fieldAddr rfl t_field_43_2) <| Wv rfl (ov_load1 rfl t_agg_4 (OB.cell ob20 (j := 2) rfl)) <| Wv rfl (ov_not rfl) <| Wv rfl (ov_pickT rfl rfl) <| WL.nil <| WC.to [0, 1, 2, 6, 17] _ rfl ?_
   exact J35 ⟨h12, !x19, HF, rfl, S15, Hle.refl _, ob20⟩
  refine Wp rfl <| Wp rfl <| Wp rfl <| Wp rfl <| Wp rfl <| Wv rfl (ov_pickF rfl rfl) <| WL.nil <| WC.to [0, 1, 2, 6, 17] _ rfl ?_
  exact J35 ⟨h12, false, HF, rfl, S15, Hle.refl _, ob20⟩
 exact ⟨h0, 0, x3, x4, x5, HF, rfl, S0, Hle.refl _, ob6⟩
theorem all_ref02_Size_Expr : ∀ k j, j ≤ k → C_ref02_Size_Expr (tie_ref02_Size_Expr j).ref02_Size_Expr ∧ C_ref02_Size_Exprs (tie_ref02_Size_Expr j).ref02_Size_Exprs := by
  intro k
  induction k with
  | zero =>
    intro j hj
    obtain rfl : j = 0 := by omega
    exact ⟨(fun _ _ _ _ _ _ => by intro h; cases h), (fun _ _ _ _ _ _ => by intro h; cases h)⟩
  | succ k ih =>
    intro j hj
    by_cases h : j ≤ k
    · exact ih j h
    · obtain rfl : j = k + 1 := by omega
      exact ⟨s_ref02_Size_Expr k ih, s_ref02_Size_Exprs k ih⟩
theorem ok_ref02_Size_Expr (k : Nat) : C_ref02_Size_Expr (F_ref02_Size_Expr k) := (all_ref02_Size_Expr k k (Nat.le_refl _)).1
theorem ok_ref02_Size_Exprs (k : Nat) : C_ref02_Size_Exprs (F_ref02_Size_Exprs k) := (all_ref02_Size_Expr k k (Nat.le_refl _)).2

def C_ref02_WellExpr (φ : Ex → Option Bool) : Prop := ∀ ⦃x1 : Ex⦄ ⦃r : Bool⦄, φ x1 = some r → ∀ ⦃w0 : World⦄ ⦃h0 : Hp⦄ ⦃cs2 : List Value⦄, Sub h0 w0 → Rp.R h0 x1 cs2 →
  Calls Tryz.prog 28 #[.agg cs2.toArray] w0 fun e w1 => ∃ v, e = .returned v ∧ ∃ h1, Stp [] w0 h0 w1 h1 ∧ v = .bool r
theorem s_ref02_WellExpr (k : Nat) : C_ref02_WellExpr (F_ref02_WellExpr k) := by
 intro x1 r HF w0 h0 cs2 hs0 r3
 have S0 : Stp [] w0 h0 w0 h0 := Stp.refl hs0 _
 refine enter (n := 14) Tryz.func28 rfl Tryz.ntmps28 rfl [(0, .agg cs2.toArray)] rfl <| WC.seq <| WC.region ?_
 obtain ⟨v4, rfl, rs5⟩ := rp_Ex.1 r3
 refine WL.box (cs := [vi x1.op, vi x1.kind, vi x1.n, .string x1.s, .string x1.f, v4]) rfl rfl rfl rfl S0.sub (fun w6 b7 hb8 s9 ob10 => ?_)
 have g11 : w0.heap.size ≤ b7 := by rw [hb8]; exact S0.size
 have S12 := S0.trans0 s9
 refine Wa rfl rfl <| WL.nil <| WQ.seqN <| WC.seq <| WC.region <| Wv rfl (ov_buildP (vs := []) (cs := [vi 0, vi 0, .bool false]) rfl t_places_43 t_zero_43 rfl) <| WL.box (cs := [vi 0, vi 0, .bool false]) rfl rfl rfl rfl S12.sub (fun w13 b14 hb15 s16 ob17 => ?_)
 have ne18 : b7 ≠ b14 := ob10.ne_new hb15
 have g19 : w0.heap.size ≤ b14 := by rw [hb15]; exact S12.size
 have S20 := S12.trans0 s16
 refine Wa rfl rfl <| WL.nil <| WQ.seqN <| WC.seq <| WC.region <| Wm rfl rfl ?_
 have ob21 := (ob10.step0 s16)
 refine Wv rfl (ov_loadN (cs := [vi x1.op, vi x1.kind, vi x1.n, .string x1.s, .string x1.f, v4]) rfl t_agg_47 t_size_47 (OB.cells ob21 0 rfl)) ?_
 obtain ⟨r22, hr23, HF⟩ := bind_some HF
 refine Wc rfl (oc_func (vs := [pt b14 0, .agg #[vi x1.op, vi x1.kind, vi x1.n, .string x1.s, .string x1.f, v4], vi 1]) rfl t_ent_49) (ok_ref02_Size_Expr _ hr23 S20.sub (rp_Ex.2 ⟨_, rfl, (rs5.mono ((s9.le).trans s16.le))⟩) ob17) ?_
 rintro v24 w25 ⟨h26, s27, rfl, ob28⟩
 have S29 := S20.trans s27 (in_cons (.inr g19) in_nil)
 refine WL.nil <| WQ.seqN <| WC.seq <| WC.region <| Wm rfl rfl <| Wv rfl (ov_nilCheck rfl) <| Wv rfl (ov_fieldAddr rfl t_field_43_2) <| Wv rfl (ov_load1 rfl t_agg_4 (OB.cell ob28 (j := 2) rfl)) <| Wv rfl (ov_not rfl) <| Wa rfl rfl <| WL.nil <| WQ.seqN <| WC.ret <| WQ.ret1 rfl rfl ?_
 obtain rfl := Option.some.inj HF
 exact ⟨_, rfl, h26, S29, rfl⟩
theorem ok_ref02_WellExpr (k : Nat) : C_ref02_WellExpr (F_ref02_WellExpr k) := s_ref02_WellExpr k

def C_ast_within (φ : Int → Int → Int → Option Bool) : Prop := ∀ ⦃x1 : Int⦄ ⦃x2 : Int⦄ ⦃x3 : Int⦄ ⦃r : Bool⦄, φ x1 x2 x3 = some r → ∀ ⦃w0 : World⦄ ⦃h0 : Hp⦄, Sub h0 w0 →
  Calls Tryz.prog 130 #[.int .i64 x1, .int .i64 x2, .int .i64 x3] w0 fun e w1 => ∃ v, e = .returned v ∧ ∃ h1, Stp [] w0 h0 w1 h1 ∧ v = .bool r
theorem s_ast_within (k : Nat) : C_ast_within (F_ast_within k) := by
 intro x1 x2 x3 r HF w0 h0  hs0 
 have S0 : Stp [] w0 h0 w0 h0 := Stp.refl hs0 _
 refine enter (n := 15) Tryz.func130 rfl Tryz.ntmps130 rfl [(0, vi x1), (1, vi x2), (2, vi x3)] rfl <| WC.seq <| WC.region <| Wa rfl rfl <| WL.nil <| WQ.seqN <| WC.seq <| WC.region <| Wm rfl rfl <| Wm rfl rfl <| Wv rfl (ov_geq rfl rfl) <| Wm rfl rfl <| WL.sF 10 HF rfl (fun HF => ?_) (fun HF => ?_)
 ·refine Wm rfl rfl <| Wm rfl rfl <| Wv rfl (ov_leq rfl rfl) <| Wv rfl (ov_pickT rfl rfl) <| Wa rfl rfl <| WL.nil <| WQ.seqN <| WC.ret <| WQ.ret1 rfl rfl ?_
  obtain rfl := Option.some.inj HF
  exact ⟨_, rfl, h0, S0, rfl⟩
 refine Wp rfl <| Wp rfl <| Wp rfl <| Wv rfl (ov_pickF rfl rfl) <| Wa rfl rfl <| WL.nil <| WQ.seqN <| WC.ret <| WQ.ret1 rfl rfl ?_
 obtain rfl := Option.some.inj HF
 exact ⟨_, rfl, h0, S0, rfl⟩
theorem ok_ast_within (k : Nat) : C_ast_within (F_ast_within k) := s_ast_within k

def C_ast_IsConst (φ : Int → Int → Option Bool) : Prop := ∀ ⦃x1 : Int⦄ ⦃x2 : Int⦄ ⦃r : Bool⦄, φ x1 x2 = some r → ∀ ⦃w0 : World⦄ ⦃h0 : Hp⦄, Sub h0 w0 →
  Calls Tryz.prog 139 #[.int .i64 x1, .int .i64 x2] w0 fun e w1 => ∃ v, e = .returned v ∧ ∃ h1, Stp [] w0 h0 w1 h1 ∧ v = .bool r
theorem s_ast_IsConst (k : Nat) : C_ast_IsConst (F_ast_IsConst k) := by
 intro x1 x2 r HF w0 h0  hs0 
 have S0 : Stp [] w0 h0 w0 h0 := Stp.refl hs0 _
 refine enter (n := 15) Tryz.func139 rfl Tryz.ntmps139 rfl [(0, vi x1), (1, vi x2)] rfl <| WC.seq <| WC.region <| Wa rfl rfl <| WL.nil <| WQ.seqN <| WC.join (fun E w27 => ∃ (h26 : Hp), ast_IsConst_j2 k  = some r ∧ E = [] ∧ Stp [] w0 h0 w27 h26 ∧ Hle h0 h26) ?_ ?_
 ·rintro E w27 ⟨h26, HF, rfl, S29, le28⟩
  refine WC.seq <| WC.region <| Wa rfl rfl <| WL.nil <| WQ.seqN <| WC.ret <| WQ.ret1 rfl rfl ?_
  obtain rfl := Option.some.inj HF
  exact ⟨_, rfl, h26, S29, rfl⟩
 intro J30
 refine WC.seq <| WC.region <| Wm rfl rfl <| WL.nil <| WQ.seqN <| WC.block <| WC.seq <| WC.region <| Wv rfl (ov_eql rfl rfl) <| Wa rfl rfl <| WL.nil <| WQ.seqN <| WC.cF HF rfl (fun HF => ?_) (fun HF => ?_)
 ·refine WC.seq <| WC.region <| Wm rfl rfl ?_
  obtain ⟨r4, hr5, HF⟩ := bind_some HF
  refine Wc rfl (oc_func (vs := [vi x2, vi 0, vi 1]) rfl t_ent_130) (ok_ast_within _ hr5 S0.sub) ?_
  rintro _ w7 ⟨h8, s9, rfl⟩
  have S10 := S0.trans0 s9
  refine Wa rfl rfl <| WL.nil <| WQ.seqN <| WC.ret <| WQ.blockRet <| WQ.thenRet <| WQ.ret1 rfl rfl ?_
  obtain rfl := Option.some.inj HF
  exact ⟨_, rfl, h8, S10, rfl⟩
 refine WC.join (fun E w13 => ∃ (h12 : Hp) (x16 : Bool), ast_IsConst_j1 k x2 x16 = some r ∧ E = [(1, vi x2), (10, .bool x16)] ∧ Stp [] w0 h0 w13 h12 ∧ Hle h0 h12) ?_ ?_
 ·rintro E w13 ⟨h12, x16, HF, rfl, S15, le14⟩
  refine WC.cF HF rfl (fun HF => ?_) (fun HF => ?_)
  ·refine WC.seq <| WC.region <| Wm rfl rfl ?_
   obtain ⟨r18, hr19, HF⟩ := bind_some HF
   refine Wc rfl (oc_func (vs := [vi x2, vi 0, vi 2147483647]) rfl t_ent_130) (ok_ast_within _ hr19 S15.sub) ?_
   rintro _ w21 ⟨h22, s23, rfl⟩
   have S24 := S15.trans0 s23
   refine Wa rfl rfl <| WL.nil <| WQ.seqN <| WC.ret <| WQ.blockRet <| WQ.thenRet <| WQ.ret1 rfl rfl ?_
   obtain rfl := Option.some.inj HF
   exact ⟨_, rfl, h22, S24, rfl⟩
  refine WC.skip <| WQ.blockN <| WC.to [] _ rfl ?_
  exact J30 ⟨h12, HF, rfl, S15, le14⟩
 intro J25
 refine WC.seq <| WC.region <| Wv rfl (ov_eql rfl rfl) <| Wa rfl rfl <| WL.nil <| WQ.seqN <| WC.cF HF rfl (fun HF => ?_) (fun HF => ?_)
 ·refine WC.skip <| WC.to [1, 10] _ rfl ?_
  exact J25 ⟨h0, (x1 : Int) == 2, HF, rfl, S0, Hle.refl _⟩
 refine WC.region <| Wv rfl (ov_eql rfl rfl) <| Wa rfl rfl <| WL.nil <| WC.to [1, 10] _ rfl ?_
 exact J25 ⟨h0, (x1 : Int) == 3, HF, rfl, S0, Hle.refl _⟩
theorem ok_ast_IsConst (k : Nat) : C_ast_IsConst (F_ast_IsConst k) := s_ast_IsConst k

def C_lexis_IsWord (φ : ByteArray → Option Bool) : Prop := ∀ ⦃x1 : ByteArray⦄ ⦃r : Bool⦄, φ x1 = some r → ∀ ⦃w0 : World⦄ ⦃h0 : Hp⦄, Sub h0 w0 →
  Calls Tryz.prog 93 #[.string x1] w0 fun e w1 => ∃ v, e = .returned v ∧ ∃ h1, Stp [] w0 h0 w1 h1 ∧ v = .bool r
theorem s_lexis_IsWord (k : Nat) : C_lexis_IsWord (F_lexis_IsWord k) := by
 intro x1 r HF w0 h0  hs0 
 have S0 : Stp [] w0 h0 w0 h0 := Stp.refl hs0 _
 refine enter (n := 95) Tryz.func93 rfl Tryz.ntmps93 rfl [(0, .string x1)] rfl <| WC.seq <| WC.region <| Wa rfl rfl <| WL.nil <| WQ.seqN <| WC.join (fun E w99 => ∃ (h98 : Hp), lexis_IsWord_j2 k  = some r ∧ E = [] ∧ Stp [] w0 h0 w99 h98 ∧ Hle h0 h98) ?_ ?_
 ·rintro E w99 ⟨h98, HF, rfl, S101, le100⟩
  refine WC.seq <| WC.region <| Wa rfl rfl <| WL.nil <| WQ.seqN <| WC.ret <| WQ.ret1 rfl rfl ?_
  obtain rfl := Option.some.inj HF
  exact ⟨_, rfl, h98, S101, rfl⟩
 intro J102
 refine WC.seq <| WC.region <| Wm rfl rfl <| WL.nil <| WQ.seqN <| WC.block <| WC.join (fun E w92 => ∃ (h91 : Hp) (x95 : Bool), lexis_IsWord_j1 k x95 = some r ∧ E = [(4, .bool x95)] ∧ Stp [] w0 h0 w92 h91 ∧ Hle h0 h91) ?_ ?_
 ·rintro E w92 ⟨h91, x95, HF, rfl, S94, le93⟩
  refine WC.cF HF rfl (fun HF => ?_) (fun HF => ?_)
  ·refine WC.seq <| WC.region <| Wa rfl rfl <| WL.nil <| WQ.seqN <| WC.ret <| WQ.blockRet <| WQ.thenRet <| WQ.ret1 rfl rfl ?_
   obtain rfl := Option.some.inj HF
   exact ⟨_, rfl, h91, S94, rfl⟩
  refine WC.skip <| WQ.blockN <| WC.to [] _ rfl ?_
  exact J102 ⟨h91, HF, rfl, S94, le93⟩
 intro J97
 refine WC.seq <| WC.region <| Wv rfl (ov_eqlS rfl rfl) <| Wa rfl rfl <| WL.nil <| WQ.seqN <| WC.cF HF rfl (fun HF => ?_) (fun HF => ?_)
 ·refine WC.skip <| WC.to [4] _ rfl ?_
  exact J97 ⟨h0, bEq x1 b'98, HF, rfl, S0, Hle.refl _⟩
 refine WC.seq <| WC.region <| Wv rfl (ov_eqlS rfl rfl) <| Wa rfl rfl <| WL.nil <| WQ.seqN <| WC.cF HF rfl (fun HF => ?_) (fun HF => ?_)
 ·refine WC.skip <| WC.to [4] _ rfl ?_
  exact J97 ⟨h0, bEq x1 b'100, HF, rfl, S0, Hle.refl _⟩
 refine WC.seq <| WC.region <| Wv rfl (ov_eqlS rfl rfl) <| Wa rfl rfl <| WL.nil <| WQ.seqN <| WC.cF HF rfl (fun HF => ?_) (fun HF => ?_)
 ·refine WC.skip <| WC.to [4] _ rfl ?_
  exact J97 ⟨h0, bEq x1 b'99, HF, rfl, S0, Hle.refl _⟩
 refine WC.seq <| WC.region <| Wv rfl (ov_eqlS rfl rfl) <| Wa rfl rfl <| WL.nil <| WQ.seqN <| WC.cF HF rfl (fun HF => ?_) (fun HF => ?_)
 ·refine WC.skip <| WC.to [4] _ rfl ?_
  exact J97 ⟨h0, bEq x1 b'101, HF, rfl, S0, Hle.refl _⟩
 refine WC.seq <| WC.region <| Wv rfl (ov_eqlS rfl rfl) <| Wa rfl rfl <| WL.nil <| WQ.seqN <| WC.cF HF rfl (fun HF => ?_) (fun HF => ?_)
 ·refine WC.skip <| WC.to [4] _ rfl ?_
  exact J97 ⟨h0, bEq x1 b'102, HF, rfl, S0, Hle.refl _⟩
 refine WC.seq <| WC.region <| Wv rfl (ov_eqlS rfl rfl) <| Wa rfl rfl <| WL.nil <| WQ.seqN <| WC.cF HF rfl (fun HF => ?_) (fun HF => ?_)
 ·refine WC.skip <| WC.to [4] _ rfl ?_
  exact J97 ⟨h0, bEq x1 b'103, HF, rfl, S0, Hle.refl _⟩
 refine WC.seq <| WC.region <| Wv rfl (ov_eqlS rfl rfl) <| Wa rfl rfl <| WL.nil <| WQ.seqN <| WC.cF HF rfl (fun HF => ?_) (fun HF => ?_)
 ·refine WC.skip <| WC.to [4] _ rfl ?_
  exact J97 ⟨h0, bEq x1 b'104, HF, rfl, S0, Hle.refl _⟩
 refine WC.seq <| WC.region <| Wv rfl (ov_eqlS rfl rfl) <| Wa rfl rfl <| WL.nil <| WQ.seqN <| WC.cF HF rfl (fun HF => ?_) (fun HF => ?_)
 ·refine WC.skip <| WC.to [4] _ rfl ?_
  exact J97 ⟨h0, bEq x1 b'105, HF, rfl, S0, Hle.refl _⟩
 refine WC.seq <| WC.region <| Wv rfl (ov_eqlS rfl rfl) <| Wa rfl rfl <| WL.nil <| WQ.seqN <| WC.cF HF rfl (fun HF => ?_) (fun HF => ?_)
 ·refine WC.skip <| WC.to [4] _ rfl ?_
  exact J97 ⟨h0, bEq x1 b'108, HF, rfl, S0, Hle.refl _⟩
 refine WC.seq <| WC.region <| Wv rfl (ov_eqlS rfl rfl) <| Wa rfl rfl <| WL.nil <| WQ.seqN <| WC.cF HF rfl (fun HF => ?_) (fun HF => ?_)
 ·refine WC.skip <| WC.to [4] _ rfl ?_
  exact J97 ⟨h0, bEq x1 b'107, HF, rfl, S0, Hle.refl _⟩
 refine WC.seq <| WC.region <| Wv rfl (ov_eqlS rfl rfl) <| Wa rfl rfl <| WL.nil <| WQ.seqN <| WC.cF HF rfl (fun HF => ?_) (fun HF => ?_)
 ·refine WC.skip <| WC.to [4] _ rfl ?_
  exact J97 ⟨h0, bEq x1 b'106, HF, rfl, S0, Hle.refl _⟩
 refine WC.seq <| WC.region <| Wv rfl (ov_eqlS rfl rfl) <| Wa rfl rfl <| WL.nil <| WQ.seqN <| WC.cF HF rfl (fun HF => ?_) (fun HF => ?_)
 ·refine WC.skip <| WC.to [4] _ rfl ?_
  exact J97 ⟨h0, bEq x1 b'109, HF, rfl, S0, Hle.refl _⟩
 refine WC.seq <| WC.region <| Wv rfl (ov_eqlS rfl rfl) <| Wa rfl rfl <| WL.nil <| WQ.seqN <| WC.cF HF rfl (fun HF => ?_) (fun HF => ?_)
 ·refine WC.skip <| WC.to [4] _ rfl ?_
  exact J97 ⟨h0, bEq x1 b'0, HF, rfl, S0, Hle.refl _⟩
 refine WC.seq <| WC.region <| Wv rfl (ov_eqlS rfl rfl) <| Wa rfl rfl <| WL.nil <| WQ.seqN <| WC.cF HF rfl (fun HF => ?_) (fun HF => ?_)
 ·refine WC.skip <| WC.to [4] _ rfl ?_
  exact J97 ⟨h0, bEq x1 b'1, HF, rfl, S0, Hle.refl _⟩
 refine WC.seq <| WC.region <| Wv rfl (ov_eqlS rfl rfl) <| Wa rfl rfl <| WL.nil <| WQ.seqN <| WC.cF HF rfl (fun HF => ?_) (fun HF => ?_)
 ·refine WC.skip <| WC.to [4] _ rfl ?_
  exact J97 ⟨h0, bEq x1 b'2, HF, rfl, S0, Hle.refl _⟩
 refine WC.seq <| WC.region <| Wv rfl (ov_eqlS rfl rfl) <| Wa rfl rfl <| WL.nil <| WQ.seqN <| WC.cF HF rfl (fun HF => ?_) (fun HF => ?_)
 ·refine WC.skip <| WC.to [4] _ rfl ?_
  exact J97 ⟨h0, bEq x1 b'3, HF, rfl, S0, Hle.refl _⟩
 refine WC.seq <| WC.region <| Wv rfl (ov_eqlS rfl rfl) <| Wa rfl rfl <| WL.nil <| WQ.seqN <| WC.cF HF rfl (fun HF => ?_) (fun HF => ?_)
 ·refine WC.skip <| WC.to [4] _ rfl ?_
  exact J97 ⟨h0, bEq x1 b'4, HF, rfl, S0, Hle.refl _⟩
 refine WC.seq <| WC.region <| Wv rfl (ov_eqlS rfl rfl) <| Wa rfl rfl <| WL.nil <| WQ.seqN <| WC.cF HF rfl (fun HF => ?_) (fun HF => ?_)
 ·refine WC.skip <| WC.to [4] _ rfl ?_
  exact J97 ⟨h0, bEq x1 b'10, HF, rfl, S0, Hle.refl _⟩
 refine WC.seq <| WC.region <| Wv rfl (ov_eqlS rfl rfl) <| Wa rfl rfl <| WL.nil <| WQ.seqN <| WC.cF HF rfl (fun HF => ?_) (fun HF => ?_)
 ·refine WC.skip <| WC.to [4] _ rfl ?_
  exact J97 ⟨h0, bEq x1 b'9, HF, rfl, S0, Hle.refl _⟩
 refine WC.seq <| WC.region <| Wv rfl (ov_eqlS rfl rfl) <| Wa rfl rfl <| WL.nil <| WQ.seqN <| WC.cF HF rfl (fun HF => ?_) (fun HF => ?_)
 ·refine WC.skip <| WC.to [4] _ rfl ?_
  exact J97 ⟨h0, bEq x1 b'5, HF, rfl, S0, Hle.refl _⟩
 refine WC.seq <| WC.region <| Wv rfl (ov_eqlS rfl rfl) <| Wa rfl rfl <| WL.nil <| WQ.seqN <| WC.cF HF rfl (fun HF => ?_) (fun HF => ?_)
 ·refine WC.skip <| WC.to [4] _ rfl ?_
  exact J97 ⟨h0, bEq x1 b'6, HF, rfl, S0, Hle.refl _⟩
 refine WC.seq <| WC.region <| Wv rfl (ov_eqlS rfl rfl) <| Wa rfl rfl <| WL.nil <| WQ.seqN <| WC.cF HF rfl (fun HF => ?_) (fun HF => ?_)
 ·refine WC.skip <| WC.to [4] _ rfl ?_
  exact J97 ⟨h0, bEq x1 b'7, HF, rfl, S0, Hle.refl _⟩
 refine WC.seq <| WC.region <| Wv rfl (ov_eqlS rfl rfl) <| Wa rfl rfl <| WL.nil <| WQ.seqN <| WC.cF HF rfl (fun HF => ?_) (fun HF => ?_)
 ·refine WC.skip <| WC.to [4] _ rfl ?_
  exact J97 ⟨h0, bEq x1 b'8, HF, rfl, S0, Hle.refl _⟩
 refine WC.seq <| WC.region <| Wv rfl (ov_eqlS rfl rfl) <| Wa rfl rfl <| WL.nil <| WQ.seqN <| WC.cF HF rfl (fun HF => ?_) (fun HF => ?_)
 ·refine WC.skip <| WC.to [4] _ rfl ?_
  exact J97 ⟨h0, bEq x1 b'11, HF, rfl, S0, Hle.refl _⟩
 refine WC.seq <| WC.region <| Wv rfl (ov_eqlS rfl rfl) <| Wa rfl rfl <| WL.nil <| WQ.seqN <| WC.cF HF rfl (fun HF => ?_) (fun HF => ?_)
 ·refine WC.skip <| WC.to [4] _ rfl ?_
  exact J97 ⟨h0, bEq x1 b'12, HF, rfl, S0, Hle.refl _⟩
 refine WC.seq <| WC.region <| Wv rfl (ov_eqlS rfl rfl) <| Wa rfl rfl <| WL.nil <| WQ.seqN <| WC.cF HF rfl (fun HF => ?_) (fun HF => ?_)
 ·refine WC.skip <| WC.to [4] _ rfl ?_
  exact J97 ⟨h0, bEq x1 b'13, HF, rfl, S0, Hle.refl _⟩
 refine WC.seq <| WC.region <| Wv rfl (ov_eqlS rfl rfl) <| Wa rfl rfl <| WL.nil <| WQ.seqN <| WC.cF HF rfl (fun HF => ?_) (fun HF => ?_)
 ·refine WC.skip <| WC.to [4] _ rfl ?_
  exact J97 ⟨h0, bEq x1 b'14, HF, rfl, S0, Hle.refl _⟩
 refine WC.seq <| WC.region <| Wv rfl (ov_eqlS rfl rfl) <| Wa rfl rfl <| WL.nil <| WQ.seqN <| WC.cF HF rfl (fun HF => ?_) (fun HF => ?_)
 ·refine WC.skip <| WC.to [4] _ rfl ?_
  exact J97 ⟨h0, bEq x1 b'18, HF, rfl, S0, Hle.refl _⟩
 refine WC.seq <| WC.region <| Wv rfl (ov_eqlS rfl rfl) <| Wa rfl rfl <| WL.nil <| WQ.seqN <| WC.cF HF rfl (fun HF => ?_) (fun HF => ?_)
 ·refine WC.skip <| WC.to [4] _ rfl ?_
  exact J97 ⟨h0, bEq x1 b'19, HF, rfl, S0, Hle.refl _⟩
 refine WC.seq <| WC.region <| Wv rfl (ov_eqlS rfl rfl) <| Wa rfl rfl <| WL.nil <| WQ.seqN <| WC.cF HF rfl (fun HF => ?_) (fun HF => ?_)
 ·refine WC.skip <| WC.to [4] _ rfl ?_
  exact J97 ⟨h0, bEq x1 b'20, HF, rfl, S0, Hle.refl _⟩
 refine WC.seq <| WC.region <| Wv rfl (ov_eqlS rfl rfl) <| Wa rfl rfl <| WL.nil <| WQ.seqN <| WC.cF HF rfl (fun HF => ?_) (fun HF => ?_)
 ·refine WC.skip <| WC.to [4] _ rfl ?_
  exact J97 ⟨h0, bEq x1 b'15, HF, rfl, S0, Hle.refl _⟩
 refine WC.seq <| WC.region <| Wv rfl (ov_eqlS rfl rfl) <| Wa rfl rfl <| WL.nil <| WQ.seqN <| WC.cF HF rfl (fun HF => ?_) (fun HF => ?_)
 ·refine WC.skip <| WC.to [4] _ rfl ?_
  exact J97 ⟨h0, bEq x1 b'16, HF, rfl, S0, Hle.refl _⟩
 refine WC.seq <| WC.region <| Wv rfl (ov_eqlS rfl rfl) <| Wa rfl rfl <| WL.nil <| WQ.seqN <| WC.cF HF rfl (fun HF => ?_) (fun HF => ?_)
 ·refine WC.skip <| WC.to [4] _ rfl ?_
  exact J97 ⟨h0, bEq x1 b'17, HF, rfl, S0, Hle.refl _⟩
 refine WC.seq <| WC.region <| Wv rfl (ov_eqlS rfl rfl) <| Wa rfl rfl <| WL.nil <| WQ.seqN <| WC.cF HF rfl (fun HF => ?_) (fun HF => ?_)
 ·refine WC.skip <| WC.to [4] _ rfl ?_
  exact J97 ⟨h0, bEq x1 b'21, HF, rfl, S0, Hle.refl _⟩
 refine WC.seq <| WC.region <| Wv rfl (ov_eqlS rfl rfl) <| Wa rfl rfl <| WL.nil <| WQ.seqN <| WC.cF HF rfl (fun HF => ?_) (fun HF => ?_)
 ·refine WC.skip <| WC.to [4] _ rfl ?_
  exact J97 ⟨h0, bEq x1 b'22, HF, rfl, S0, Hle.refl _⟩
 refine WC.seq <| WC.region <| Wv rfl (ov_eqlS rfl rfl) <| Wa rfl rfl <| WL.nil <| WQ.seqN <| WC.cF HF rfl (fun HF => ?_) (fun HF => ?_)
 ·refine WC.skip <| WC.to [4] _ rfl ?_
  exact J97 ⟨h0, bEq x1 b'23, HF, rfl, S0, Hle.refl _⟩
 refine WC.seq <| WC.region <| Wv rfl (ov_eqlS rfl rfl) <| Wa rfl rfl <| WL.nil <| WQ.seqN <| WC.cF HF rfl (fun HF => ?_) (fun HF => ?_)
 ·refine WC.skip <| WC.to [4] _ rfl ?_
  exact J97 ⟨h0, bEq x1 b'24, HF, rfl, S0, Hle.refl _⟩
 refine WC.seq <| WC.region <| Wv rfl (ov_eqlS rfl rfl) <| Wa rfl rfl <| WL.nil <| WQ.seqN <| WC.cF HF rfl (fun HF => ?_) (fun HF => ?_)
 ·refine WC.skip <| WC.to [4] _ rfl ?_
  exact J97 ⟨h0, bEq x1 b'25, HF, rfl, S0, Hle.refl _⟩
 refine WC.seq <| WC.region <| Wv rfl (ov_eqlS rfl rfl) <| Wa rfl rfl <| WL.nil <| WQ.seqN <| WC.cF HF rfl (fun HF => ?_) (fun HF => ?_)
 ·refine WC.skip <| WC.to [4] _ rfl ?_
  exact J97 ⟨h0, bEq x1 b'26, HF, rfl, S0, Hle.refl _⟩
 refine WC.seq <| WC.region <| Wv rfl (ov_eqlS rfl rfl) <| Wa rfl rfl <| WL.nil <| WQ.seqN <| WC.cF HF rfl (fun HF => ?_) (fun HF => ?_)
 ·refine WC.skip <| WC.to [4] _ rfl ?_
  exact J97 ⟨h0, bEq x1 b'27, HF, rfl, S0, Hle.refl _⟩
 refine WC.seq <| WC.region <| Wv rfl (ov_eqlS rfl rfl) <| Wa rfl rfl <| WL.nil <| WQ.seqN <| WC.cF HF rfl (fun HF => ?_) (fun HF => ?_)
 ·refine WC.skip <| WC.to [4] _ rfl ?_
  exact J97 ⟨h0, bEq x1 b'30, HF, rfl, S0, Hle.refl _⟩
 refine WC.seq <| WC.region <| Wv rfl (ov_eqlS rfl rfl) <| Wa rfl rfl <| WL.nil <| WQ.seqN <| WC.cF HF rfl (fun HF => ?_) (fun HF => ?_)
 ·refine WC.skip <| WC.to [4] _ rfl ?_
  exact J97 ⟨h0, bEq x1 b'29, HF, rfl, S0, Hle.refl _⟩
 refine WC.seq <| WC.region <| Wv rfl (ov_eqlS rfl rfl) <| Wa rfl rfl <| WL.nil <| WQ.seqN <| WC.cF HF rfl (fun HF => ?_) (fun HF => ?_)
 ·refine WC.skip <| WC.to [4] _ rfl ?_
  exact J97 ⟨h0, bEq x1 b'28, HF, rfl, S0, Hle.refl _⟩
 refine WC.seq <| WC.region <| Wv rfl (ov_eqlS rfl rfl) <| Wa rfl rfl <| WL.nil <| WQ.seqN <| WC.cF HF rfl (fun HF => ?_) (fun HF => ?_)
 ·refine WC.skip <| WC.to [4] _ rfl ?_
  exact J97 ⟨h0, bEq x1 b'31, HF, rfl, S0, Hle.refl _⟩
 refine WC.seq <| WC.region <| Wv rfl (ov_eqlS rfl rfl) <| Wa rfl rfl <| WL.nil <| WQ.seqN <| WC.cF HF rfl (fun HF => ?_) (fun HF => ?_)
 ·refine WC.skip <| WC.to [4] _ rfl ?_
  exact J97 ⟨h0, bEq x1 b'33, HF, rfl, S0, Hle.refl _⟩
 refine WC.seq <| WC.region <| Wv rfl (ov_eqlS rfl rfl) <| Wa rfl rfl <| WL.nil <| WQ.seqN <| WC.cF HF rfl (fun HF => ?_) (fun HF => ?_)
 ·refine WC.skip <| WC.to [4] _ rfl ?_
  exact J97 ⟨h0, bEq x1 b'32, HF, rfl, S0, Hle.refl _⟩
 refine WC.seq <| WC.region <| Wv rfl (ov_eqlS rfl rfl) <| Wa rfl rfl <| WL.nil <| WQ.seqN <| WC.cF HF rfl (fun HF => ?_) (fun HF => ?_)
 ·refine WC.skip <| WC.to [4] _ rfl ?_
  exact J97 ⟨h0, bEq x1 b'35, HF, rfl, S0, Hle.refl _⟩
 refine WC.seq <| WC.region <| Wv rfl (ov_eqlS rfl rfl) <| Wa rfl rfl <| WL.nil <| WQ.seqN <| WC.cF HF rfl (fun HF => ?_) (fun HF => ?_)
 ·refine WC.skip <| WC.to [4] _ rfl ?_
  exact J97 ⟨h0, bEq x1 b'34, HF, rfl, S0, Hle.refl _⟩
 refine WC.seq <| WC.region <| Wv rfl (ov_eqlS rfl rfl) <| Wa rfl rfl <| WL.nil <| WQ.seqN <| WC.cF HF rfl (fun HF => ?_) (fun HF => ?_)
 ·refine WC.skip <| WC.to [4] _ rfl ?_
  exact J97 ⟨h0, bEq x1 b'36, HF, rfl, S0, Hle.refl _⟩
 refine WC.seq <| WC.region <| Wv rfl (ov_eqlS rfl rfl) <| Wa rfl rfl <| WL.nil <| WQ.seqN <| WC.cF HF rfl (fun HF => ?_) (fun HF => ?_)
 ·refine WC.skip <| WC.to [4] _ rfl ?_
  exact J97 ⟨h0, bEq x1 b'37, HF, rfl, S0, Hle.refl _⟩
 refine WC.seq <| WC.region <| Wv rfl (ov_eqlS rfl rfl) <| Wa rfl rfl <| WL.nil <| WQ.seqN <| WC.cF HF rfl (fun HF => ?_) (fun HF => ?_)
 ·refine WC.skip <| WC.to [4] _ rfl ?_
  exact J97 ⟨h0, bEq x1 b'38, HF, rfl, S0, Hle.refl _⟩
 refine WC.seq <| WC.region <| Wv rfl (ov_eqlS rfl rfl) <| Wa rfl rfl <| WL.nil <| WQ.seqN <| WC.cF HF rfl (fun HF => ?_) (fun HF => ?_)
 ·refine WC.skip <| WC.to [4] _ rfl ?_
  exact J97 ⟨h0, bEq x1 b'41, HF, rfl, S0, Hle.refl _⟩
 refine WC.seq <| WC.region <| Wv rfl (ov_eqlS rfl rfl) <| Wa rfl rfl <| WL.nil <| WQ.seqN <| WC.cF HF rfl (fun HF => ?_) (fun HF => ?_)
 ·refine WC.skip <| WC.to [4] _ rfl ?_
  exact J97 ⟨h0, bEq x1 b'39, HF, rfl, S0, Hle.refl _⟩
 refine WC.seq <| WC.region <| Wv rfl (ov_eqlS rfl rfl) <| Wa rfl rfl <| WL.nil <| WQ.seqN <| WC.cF HF rfl (fun HF => ?_) (fun HF => ?_)
 ·refine WC.skip <| WC.to [4] _ rfl ?_
  exact J97 ⟨h0, bEq x1 b'40, HF, rfl, S0, Hle.refl _⟩
 refine WC.seq <| WC.region <| Wv rfl (ov_eqlS rfl rfl) <| Wa rfl rfl <| WL.nil <| WQ.seqN <| WC.cF HF rfl (fun HF => ?_) (fun HF => ?_)
 ·refine WC.skip <| WC.to [4] _ rfl ?_
  exact J97 ⟨h0, bEq x1 b'42, HF, rfl, S0, Hle.refl _⟩
 refine WC.seq <| WC.region <| Wv rfl (ov_eqlS rfl rfl) <| Wa rfl rfl <| WL.nil <| WQ.seqN <| WC.cF HF rfl (fun HF => ?_) (fun HF => ?_)
 ·refine WC.skip <| WC.to [4] _ rfl ?_
  exact J97 ⟨h0, bEq x1 b'43, HF, rfl, S0, Hle.refl _⟩
 refine WC.seq <| WC.region <| Wv rfl (ov_eqlS rfl rfl) <| Wa rfl rfl <| WL.nil <| WQ.seqN <| WC.cF HF rfl (fun HF => ?_) (fun HF => ?_)
 ·refine WC.skip <| WC.to [4] _ rfl ?_
  exact J97 ⟨h0, bEq x1 b'44, HF, rfl, S0, Hle.refl _⟩
 refine WC.seq <| WC.region <| Wv rfl (ov_eqlS rfl rfl) <| Wa rfl rfl <| WL.nil <| WQ.seqN <| WC.cF HF rfl (fun HF => ?_) (fun HF => ?_)
 ·refine WC.skip <| WC.to [4] _ rfl ?_
  exact J97 ⟨h0, bEq x1 b'46, HF, rfl, S0, Hle.refl _⟩
 refine WC.seq <| WC.region <| Wv rfl (ov_eqlS rfl rfl) <| Wa rfl rfl <| WL.nil <| WQ.seqN <| WC.cF HF rfl (fun HF => ?_) (fun HF => ?_)
 ·refine WC.skip <| WC.to [4] _ rfl ?_
  exact J97 ⟨h0, bEq x1 b'45, HF, rfl, S0, Hle.refl _⟩
 refine WC.seq <| WC.region <| Wv rfl (ov_eqlS rfl rfl) <| Wa rfl rfl <| WL.nil <| WQ.seqN <| WC.cF HF rfl (fun HF => ?_) (fun HF => ?_)
 ·refine WC.skip <| WC.to [4] _ rfl ?_
  exact J97 ⟨h0, bEq x1 b'47, HF, rfl, S0, Hle.refl _⟩
 refine WC.seq <| WC.region <| Wv rfl (ov_eqlS rfl rfl) <| Wa rfl rfl <| WL.nil <| WQ.seqN <| WC.cF HF rfl (fun HF => ?_) (fun HF => ?_)
 ·refine WC.skip <| WC.to [4] _ rfl ?_
  exact J97 ⟨h0, bEq x1 b'48, HF, rfl, S0, Hle.refl _⟩
 refine WC.seq <| WC.region <| Wv rfl (ov_eqlS rfl rfl) <| Wa rfl rfl <| WL.nil <| WQ.seqN <| WC.cF HF rfl (fun HF => ?_) (fun HF => ?_)
 ·refine WC.skip <| WC.to [4] _ rfl ?_
  exact J97 ⟨h0, bEq x1 b'49, HF, rfl, S0, Hle.refl _⟩
 refine WC.seq <| WC.region <| Wv rfl (ov_eqlS rfl rfl) <| Wa rfl rfl <| WL.nil <| WQ.seqN <| WC.cF HF rfl (fun HF => ?_) (fun HF => ?_)
 ·refine WC.skip <| WC.to [4] _ rfl ?_
  exact J97 ⟨h0, bEq x1 b'50, HF, rfl, S0, Hle.refl _⟩
 refine WC.seq <| WC.region <| Wv rfl (ov_eqlS rfl rfl) <| Wa rfl rfl <| WL.nil <| WQ.seqN <| WC.cF HF rfl (fun HF => ?_) (fun HF => ?_)
 ·refine WC.skip <| WC.to [4] _ rfl ?_
  exact J97 ⟨h0, bEq x1 b'51, HF, rfl, S0, Hle.refl _⟩
 refine WC.seq <| WC.region <| Wv rfl (ov_eqlS rfl rfl) <| Wa rfl rfl <| WL.nil <| WQ.seqN <| WC.cF HF rfl (fun HF => ?_) (fun HF => ?_)
 ·refine WC.skip <| WC.to [4] _ rfl ?_
  exact J97 ⟨h0, bEq x1 b'52, HF, rfl, S0, Hle.refl _⟩
 refine WC.seq <| WC.region <| Wv rfl (ov_eqlS rfl rfl) <| Wa rfl rfl <| WL.nil <| WQ.seqN <| WC.cF HF rfl (fun HF => ?_) (fun HF => ?_)
 ·refine WC.skip <| WC.to [4] _ rfl ?_
  exact J97 ⟨h0, bEq x1 b'57, HF, rfl, S0, Hle.refl _⟩
 refine WC.seq <| WC.region <| Wv rfl (ov_eqlS rfl rfl) <| Wa rfl rfl <| WL.nil <| WQ.seqN <| WC.cF HF rfl (fun HF => ?_) (fun HF => ?_)
 ·refine WC.skip <| WC.to [4] _ rfl ?_
  exact J97 ⟨h0, bEq x1 b'54, HF, rfl, S0, Hle.refl _⟩
 refine WC.seq <| WC.region <| Wv rfl (ov_eqlS rfl rfl) <| Wa rfl rfl <| WL.nil <| WQ.seqN <| WC.cF HF rfl (fun HF => ?_) (fun HF => ?_)
 ·refine WC.skip <| WC.to [4] _ rfl ?_
  exact J97 ⟨h0, bEq x1 b'56, HF, rfl, S0, Hle.refl _⟩
 refine WC.seq <| WC.region <| Wv rfl (ov_eqlS rfl rfl) <| Wa rfl rfl <| WL.nil <| WQ.seqN <| WC.cF HF rfl (fun HF => ?_) (fun HF => ?_)
 ·refine WC.skip <| WC.to [4] _ rfl ?_
  exact J97 ⟨h0, bEq x1 b'55, HF, rfl, S0, Hle.refl _⟩
 refine WC.seq <| WC.region <| Wv rfl (ov_eqlS rfl rfl) <| Wa rfl rfl <| WL.nil <| WQ.seqN <| WC.cF HF rfl (fun HF => ?_) (fun HF => ?_)
 ·refine WC.skip <| WC.to [4] _ rfl ?_
  exact J97 ⟨h0, bEq x1 b'53, HF, rfl, S0, Hle.refl _⟩
 refine WC.seq <| WC.region <| Wv rfl (ov_eqlS rfl rfl) <| Wa rfl rfl <| WL.nil <| WQ.seqN <| WC.cF HF rfl (fun HF => ?_) (fun HF => ?_)
 ·refine WC.skip <| WC.to [4] _ rfl ?_
  exact J97 ⟨h0, bEq x1 b'58, HF, rfl, S0, Hle.refl _⟩
 refine WC.seq <| WC.region <| Wv rfl (ov_eqlS rfl rfl) <| Wa rfl rfl <| WL.nil <| WQ.seqN <| WC.cF HF rfl (fun HF => ?_) (fun HF => ?_)
 ·refine WC.skip <| WC.to [4] _ rfl ?_
  exact J97 ⟨h0, bEq x1 b'60, HF, rfl, S0, Hle.refl _⟩
 refine WC.seq <| WC.region <| Wv rfl (ov_eqlS rfl rfl) <| Wa rfl rfl <| WL.nil <| WQ.seqN <| WC.cF HF rfl (fun HF => ?_) (fun HF => ?_)
 ·refine WC.skip <| WC.to [4] _ rfl ?_
  exact J97 ⟨h0, bEq x1 b'59, HF, rfl, S0, Hle.refl _⟩
 refine WC.seq <| WC.region <| Wv rfl (ov_eqlS rfl rfl) <| Wa rfl rfl <| WL.nil <| WQ.seqN <| WC.cF HF rfl (fun HF => ?_) (fun HF => ?_)
 ·refine WC.skip <| WC.to [4] _ rfl ?_
  exact J97 ⟨h0, bEq x1 b'61, HF, rfl, S0, Hle.refl _⟩
 refine WC.seq <| WC.region <| Wv rfl (ov_eqlS rfl rfl) <| Wa rfl rfl <| WL.nil <| WQ.seqN <| WC.cF HF rfl (fun HF => ?_) (fun HF => ?_)
 ·refine WC.skip <| WC.to [4] _ rfl ?_
  exact J97 ⟨h0, bEq x1 b'62, HF, rfl, S0, Hle.refl _⟩
 refine WC.seq <| WC.region <| Wv rfl (ov_eqlS rfl rfl) <| Wa rfl rfl <| WL.nil <| WQ.seqN <| WC.cF HF rfl (fun HF => ?_) (fun HF => ?_)
 ·refine WC.skip <| WC.to [4] _ rfl ?_
  exact J97 ⟨h0, bEq x1 b'65, HF, rfl, S0, Hle.refl _⟩
 refine WC.seq <| WC.region <| Wv rfl (ov_eqlS rfl rfl) <| Wa rfl rfl <| WL.nil <| WQ.seqN <| WC.cF HF rfl (fun HF => ?_) (fun HF => ?_)
 ·refine WC.skip <| WC.to [4] _ rfl ?_
  exact J97 ⟨h0, bEq x1 b'63, HF, rfl, S0, Hle.refl _⟩
 refine WC.seq <| WC.region <| Wv rfl (ov_eqlS rfl rfl) <| Wa rfl rfl <| WL.nil <| WQ.seqN <| WC.cF HF rfl (fun HF => ?_) (fun HF => ?_)
 ·refine WC.skip <| WC.to [4] _ rfl ?_
  exact J97 ⟨h0, bEq x1 b'64, HF, rfl, S0, Hle.refl _⟩
 refine WC.seq <| WC.region <| Wv rfl (ov_eqlS rfl rfl) <| Wa rfl rfl <| WL.nil <| WQ.seqN <| WC.cF HF rfl (fun HF => ?_) (fun HF => ?_)
 ·refine WC.skip <| WC.to [4] _ rfl ?_
  exact J97 ⟨h0, bEq x1 b'66, HF, rfl, S0, Hle.refl _⟩
 refine WC.seq <| WC.region <| Wv rfl (ov_eqlS rfl rfl) <| Wa rfl rfl <| WL.nil <| WQ.seqN <| WC.cF HF rfl (fun HF => ?_) (fun HF => ?_)
 ·refine WC.skip <| WC.to [4] _ rfl ?_
  exact J97 ⟨h0, bEq x1 b'73, HF, rfl, S0, Hle.refl _⟩
 refine WC.seq <| WC.region <| Wv rfl (ov_eqlS rfl rfl) <| Wa rfl rfl <| WL.nil <| WQ.seqN <| WC.cF HF rfl (fun HF => ?_) (fun HF => ?_)
 ·refine WC.skip <| WC.to [4] _ rfl ?_
  exact J97 ⟨h0, bEq x1 b'67, HF, rfl, S0, Hle.refl _⟩
 refine WC.seq <| WC.region <| Wv rfl (ov_eqlS rfl rfl) <| Wa rfl rfl <| WL.nil <| WQ.seqN <| WC.cF HF rfl (fun HF => ?_) (fun HF => ?_)
 ·refine WC.skip <| WC.to [4] _ rfl ?_
  exact J97 ⟨h0, bEq x1 b'68, HF, rfl, S0, Hle.refl _⟩
 refine WC.seq <| WC.region <| Wv rfl (ov_eqlS rfl rfl) <| Wa rfl rfl <| WL.nil <| WQ.seqN <| WC.cF HF rfl (fun HF => ?_) (fun HF => ?_)
 ·refine WC.skip <| WC.to [4] _ rfl ?_
  exact J97 ⟨h0, bEq x1 b'69, HF, rfl, S0, Hle.refl _⟩
 refine WC.seq <| WC.region <| Wv rfl (ov_eqlS rfl rfl) <| Wa rfl rfl <| WL.nil <| WQ.seqN <| WC.cF HF rfl (fun HF => ?_) (fun HF => ?_)
 ·refine WC.skip <| WC.to [4] _ rfl ?_
  exact J97 ⟨h0, bEq x1 b'71, HF, rfl, S0, Hle.refl _⟩
 refine WC.seq <| WC.region <| Wv rfl (ov_eqlS rfl rfl) <| Wa rfl rfl <| WL.nil <| WQ.seqN <| WC.cF HF rfl (fun HF => ?_) (fun HF => ?_)
 ·refine WC.skip <| WC.to [4] _ rfl ?_
  exact J97 ⟨h0, bEq x1 b'70, HF, rfl, S0, Hle.refl _⟩
 refine WC.seq <| WC.region <| Wv rfl (ov_eqlS rfl rfl) <| Wa rfl rfl <| WL.nil <| WQ.seqN <| WC.cF HF rfl (fun HF => ?_) (fun HF => ?_)
 ·refine WC.skip <| WC.to [4] _ rfl ?_
  exact J97 ⟨h0, bEq x1 b'74, HF, rfl, S0, Hle.refl _⟩
 refine WC.seq <| WC.region <| Wv rfl (ov_eqlS rfl rfl) <| Wa rfl rfl <| WL.nil <| WQ.seqN <| WC.cF HF rfl (fun HF => ?_) (fun HF => ?_)
 ·refine WC.skip <| WC.to [4] _ rfl ?_
  exact J97 ⟨h0, bEq x1 b'75, HF, rfl, S0, Hle.refl _⟩
 refine WC.seq <| WC.region <| Wv rfl (ov_eqlS rfl rfl) <| Wa rfl rfl <| WL.nil <| WQ.seqN <| WC.cF HF rfl (fun HF => ?_) (fun HF => ?_)
 ·refine WC.skip <| WC.to [4] _ rfl ?_
  exact J97 ⟨h0, bEq x1 b'76, HF, rfl, S0, Hle.refl _⟩
 refine WC.seq <| WC.region <| Wv rfl (ov_eqlS rfl rfl) <| Wa rfl rfl <| WL.nil <| WQ.seqN <| WC.cF HF rfl (fun HF => ?_) (fun HF => ?_)
 ·refine WC.skip <| WC.to [4] _ rfl ?_
  exact J97 ⟨h0, bEq x1 b'78, HF, rfl, S0, Hle.refl _⟩
 refine WC.region <| Wv rfl (ov_eqlS rfl rfl) <| Wa rfl rfl <| WL.nil <| WC.to [4] _ rfl ?_
 exact J97 ⟨h0, bEq x1 b'77, HF, rfl, S0, Hle.refl _⟩
theorem ok_lexis_IsWord (k : Nat) : C_lexis_IsWord (F_lexis_IsWord k) := s_lexis_IsWord k

def C_lexis_isLetter (φ : Int → Option Bool) : Prop := ∀ ⦃x1 : Int⦄ ⦃r : Bool⦄, φ x1 = some r → ∀ ⦃w0 : World⦄ ⦃h0 : Hp⦄, Sub h0 w0 →
  Calls Tryz.prog 70 #[.int .u8 x1] w0 fun e w1 => ∃ v, e = .returned v ∧ ∃ h1, Stp [] w0 h0 w1 h1 ∧ v = .bool r
theorem s_lexis_isLetter (k : Nat) : C_lexis_isLetter (F_lexis_isLetter k) := by
 intro x1 r HF w0 h0  hs0 
 have S0 : Stp [] w0 h0 w0 h0 := Stp.refl hs0 _
 refine enter (n := 9) Tryz.func70 rfl Tryz.ntmps70 rfl [(0, .int .u8 x1)] rfl <| WC.seq <| WC.region <| Wa rfl rfl <| WL.nil <| WQ.seqN <| WC.seq <| WC.region <| Wm rfl rfl <| Wv rfl (ov_geq rfl rfl) <| Wm rfl rfl <| WL.sF 5 HF rfl (fun HF => ?_) (fun HF => ?_)
 ·refine Wm rfl rfl <| Wv rfl (ov_leq rfl rfl) <| Wv rfl (ov_pickT rfl rfl) <| Wa rfl rfl <| WL.nil <| WQ.seqN <| WC.ret <| WQ.ret1 rfl rfl ?_
  obtain rfl := Option.some.inj HF
  exact ⟨_, rfl, h0, S0, rfl⟩
 refine Wp rfl <| Wp rfl <| Wv rfl (ov_pickF rfl rfl) <| Wa rfl rfl <| WL.nil <| WQ.seqN <| WC.ret <| WQ.ret1 rfl rfl ?_
 obtain rfl := Option.some.inj HF
 exact ⟨_, rfl, h0, S0, rfl⟩
theorem ok_lexis_isLetter (k : Nat) : C_lexis_isLetter (F_lexis_isLetter k) := s_lexis_isLetter k

def C_lexis_isDigit (φ : Int → Option Bool) : Prop := ∀ ⦃x1 : Int⦄ ⦃r : Bool⦄, φ x1 = some r → ∀ ⦃w0 : World⦄ ⦃h0 : Hp⦄, Sub h0 w0 →
  Calls Tryz.prog 72 #[.int .u8 x1] w0 fun e w1 => ∃ v, e = .returned v ∧ ∃ h1, Stp [] w0 h0 w1 h1 ∧ v = .bool r
theorem s_lexis_isDigit (k : Nat) : C_lexis_isDigit (F_lexis_isDigit k) := by
 intro x1 r HF w0 h0  hs0 
 have S0 : Stp [] w0 h0 w0 h0 := Stp.refl hs0 _
 refine enter (n := 9) Tryz.func72 rfl Tryz.ntmps72 rfl [(0, .int .u8 x1)] rfl <| WC.seq <| WC.region <| Wa rfl rfl <| WL.nil <| WQ.seqN <| WC.seq <| WC.region <| Wm rfl rfl <| Wv rfl (ov_geq rfl rfl) <| Wm rfl rfl <| WL.sF 5 HF rfl (fun HF => ?_) (fun HF => ?_)
 ·refine Wm rfl rfl <| Wv rfl (ov_leq rfl rfl) <| Wv rfl (ov_pickT rfl rfl) <| Wa rfl rfl <| WL.nil <| WQ.seqN <| WC.ret <| WQ.ret1 rfl rfl ?_
  obtain rfl := Option.some.inj HF
  exact ⟨_, rfl, h0, S0, rfl⟩
 refine Wp rfl <| Wp rfl <| Wv rfl (ov_pickF rfl rfl) <| Wa rfl rfl <| WL.nil <| WQ.seqN <| WC.ret <| WQ.ret1 rfl rfl ?_
 obtain rfl := Option.some.inj HF
 exact ⟨_, rfl, h0, S0, rfl⟩
theorem ok_lexis_isDigit (k : Nat) : C_lexis_isDigit (F_lexis_isDigit k) := s_lexis_isDigit k

def C_lexis_isPart (φ : Int → Option Bool) : Prop := ∀ ⦃x1 : Int⦄ ⦃r : Bool⦄, φ x1 = some r → ∀ ⦃w0 : World⦄ ⦃h0 : Hp⦄, Sub h0 w0 →
  Calls Tryz.prog 126 #[.int .u8 x1] w0 fun e w1 => ∃ v, e = .returned v ∧ ∃ h1, Stp [] w0 h0 w1 h1 ∧ v = .bool r
theorem s_lexis_isPart (k : Nat) : C_lexis_isPart (F_lexis_isPart k) := by
 intro x1 r HF w0 h0  hs0 
 have S0 : Stp [] w0 h0 w0 h0 := Stp.refl hs0 _
 refine enter (n := 13) Tryz.func126 rfl Tryz.ntmps126 rfl [(0, .int .u8 x1)] rfl <| WC.seq <| WC.region <| Wa rfl rfl <| WL.nil <| WQ.seqN <| WC.seq <| WC.region <| Wm rfl rfl ?_
 obtain ⟨r2, hr3, HF⟩ := bind_some HF
 refine Wc rfl (oc_func (vs := [.int .u8 x1]) rfl t_ent_70) (ok_lexis_isLetter _ hr3 S0.sub) ?_
 rintro _ w5 ⟨h6, s7, rfl⟩
 have S8 := S0.trans0 s7
 refine Wm rfl rfl <| WL.sF 5 HF rfl (fun HF => ?_) (fun HF => ?_)
 ·refine Wp rfl <| Wp rfl <| Wv rfl (ov_pickT rfl rfl) <| Wm rfl rfl <| Wp rfl <| Wp rfl <| Wv rfl (ov_pickT rfl rfl) <| Wa rfl rfl <| WL.nil <| WQ.seqN <| WC.ret <| WQ.ret1 rfl rfl ?_
  obtain rfl := Option.some.inj HF
  exact ⟨_, rfl, h6, S8, rfl⟩
 refine Wm rfl rfl ?_
 obtain ⟨r10, hr11, HF⟩ := bind_some HF
 refine Wc rfl (oc_func (vs := [.int .u8 x1]) rfl t_ent_72) (ok_lexis_isDigit _ hr11 S8.sub) ?_
 rintro _ w13 ⟨h14, s15, rfl⟩
 have S16 := S8.trans0 s15
 refine Wv rfl (ov_pickF rfl rfl) <| Wm rfl rfl <| WL.sF 9 HF rfl (fun HF => ?_) (fun HF => ?_)
 ·refine Wp rfl <| Wp rfl <| Wv rfl (ov_pickT rfl rfl) <| Wa rfl rfl <| WL.nil <| WQ.seqN <| WC.ret <| WQ.ret1 rfl rfl ?_
  obtain rfl := Option.some.inj HF
  exact ⟨_, rfl, h14, S16, rfl⟩
 refine Wm rfl rfl <| Wv rfl (ov_eql rfl rfl) <| Wv rfl (ov_pickF rfl rfl) <| Wa rfl rfl <| WL.nil <| WQ.seqN <| WC.ret <| WQ.ret1 rfl rfl ?_
 obtain rfl := Option.some.inj HF
 exact ⟨_, rfl, h14, S16, rfl⟩
theorem ok_lexis_isPart (k : Nat) : C_lexis_isPart (F_lexis_isPart k) := s_lexis_isPart k

def C_lexis_isRun (φ : ByteArray → Option Bool) : Prop := ∀ ⦃x1 : ByteArray⦄ ⦃r : Bool⦄, φ x1 = some r → ∀ ⦃w0 : World⦄ ⦃h0 : Hp⦄, Sub h0 w0 →
  Calls Tryz.prog 149 #[.string x1] w0 fun e w1 => ∃ v, e = .returned v ∧ ∃ h1, Stp [] w0 h0 w1 h1 ∧ v = .bool r
theorem s_lexis_isRun (k : Nat) (IH : ∀ j, j ≤ k → C_lexis_isRun (tie_lexis_isRun j).lexis_isRun) : C_lexis_isRun (m_lexis_isRun k (tie_lexis_isRun k)) := by
 intro x1 r HF w0 h0  hs0 
 have S0 : Stp [] w0 h0 w0 h0 := Stp.refl hs0 _
 refine enter (n := 22) Tryz.func149 rfl Tryz.ntmps149 rfl [(0, .string x1)] rfl <| WC.seq <| WC.region <| Wa rfl rfl <| WL.nil <| WQ.seqN <| WC.seq <| WC.seq <| WC.region <| Wm rfl rfl <| Wv rfl (ov_lenS rfl t_string_9) <| Wm rfl rfl <| WL.nil <| WQ.seqN <| WC.block <| WC.loop <| WP.to [0, 5, 6] [(0, .string x1), (5, vi (x1.size : Int)), (6, vi 0)] rfl <| WP_rule (K := k) (fun j E w3 => ∃ (h2 : Hp) (x6 : Int), (tie_lexis_isRun j).lexis_isRun_l1 x1 x6 = some r ∧ E = [(0, .string x1), (5, vi (x1.size : Int)), (6, vi x6)] ∧ Stp [] w0 h0 w3 h2 ∧ Hle h0 h2) ?_ ?_ (j := k) (Nat.le_refl _) ?_
 ·rintro E w3 ⟨_, _, HF, _⟩; cases HF
 ·rintro j7 hj9 IHL8 E w3 ⟨h2, x6, HF, rfl, S5, le4⟩
  refine WC.seq <| WC.region <| Wv rfl (ov_lss rfl rfl) <| WL.nil <| WQ.seqN <| WC.join (fun E w22 => ∃ (h21 : Hp), lexis_isRun_j2 j7 (tie_lexis_isRun j7) x1 x6 = some r ∧ E = [(0, .string x1), (5, vi (x1.size : Int)), (6, vi x6)] ∧ Stp [] w0 h0 w22 h21 ∧ Hle h2 h21) ?_ ?_
  ·rintro E w22 ⟨h21, HF, rfl, S24, le23⟩
   refine WC.seq <| WC.block <| WC.seq <| WC.region <| Wm rfl rfl <| Wa rfl rfl <| WL.nil <| WQ.seqN <| WC.seq <| WC.region <| Wm rfl rfl <| Wm rfl rfl ?_
   obtain ⟨c25, hc26, HF⟩ := bind_some HF
   refine Wv rfl (ov_indexSO rfl rfl t_string_9 hc26) ?_
   obtain ⟨r27, hr28, HF⟩ := bind_some HF
   refine Wc rfl (oc_func (vs := [.int .u8 c25]) rfl t_ent_126) (ok_lexis_isPart _ hr28 S24.sub) ?_
   rintro _ w30 ⟨h31, s32, rfl⟩
   have S33 := S24.trans0 s32
   refine Wv rfl (ov_not rfl) <| WL.nil <| WQ.seqN <| WC.cF HF rfl (fun HF => ?_) (fun HF => ?_)
   ·refine WC.seq <| WC.region <| Wa rfl rfl <| WL.nil <| WQ.seqN <| WC.ret <| WQ.blockRet <| WQ.thenRet <| WQ.thenRet <| WQ.blockRet <| WQ.thenRet <| WQ.ret1 rfl rfl ?_
    obtain rfl := Option.some.inj HF
    exact ⟨_, rfl, h31, S33, rfl⟩
   refine WC.skip <| WQ.blockN <| WQ.seqN <| WC.region <| Wv rfl (ov_add rfl rfl) <| Wm rfl rfl <| WL.nil <| WQ.loopN <| WP.to [0, 5, 6] [(0, .string x1), (5, vi (x1.size : Int)), (6, vi (IntKind.i64.wrap (x6 + 1)))] rfl ?_
   exact IHL8 j7 (Nat.le_refl _) _ _ ⟨h31, IntKind.i64.wrap (x6 + 1), HF, rfl, S33, (le4).trans ((le23).trans s32.le)⟩
  intro J35
  refine WC.cF HF rfl (fun HF => ?_) (fun HF => ?_)
  ·refine WC.skip <| WC.to [0, 5, 6] _ rfl ?_
   exact J35 ⟨h2, HF, rfl, S5, Hle.refl _⟩
  refine WC.exit <| WQ.thenExit <| WQ.thenExit <| WQ.blockHit <| WQ.seqN <| WC.seq <| WC.region <| Wm rfl rfl <| Wv rfl (ov_neqS rfl rfl) <| Wm rfl rfl <| WL.sF 17 HF rfl (fun HF => ?_) (fun HF => ?_)
  ·refine Wm rfl rfl ?_
   obtain ⟨c12, hc13, HF⟩ := bind_some HF
   refine Wv rfl (ov_indexSO rfl rfl t_string_9 hc13) ?_
   obtain ⟨r14, hr15, HF⟩ := bind_some HF
   refine Wc rfl (oc_func (vs := [.int .u8 c12]) rfl t_ent_70) (ok_lexis_isLetter _ hr15 S5.sub) ?_
   rintro _ w17 ⟨h18, s19, rfl⟩
   have S20 := S5.trans0 s19
   refine Wv rfl (ov_pickT rfl rfl) <| Wa rfl rfl <| WL.nil <| WQ.seqN <| WC.ret <| WQ.ret1 rfl rfl ?_
   obtain rfl := Option.some.inj HF
   exact ⟨_, rfl, h18, S20, rfl⟩
  refine Wp rfl <| Wp rfl <| Wp rfl <| Wv rfl (ov_pickF rfl rfl) <| Wa rfl rfl <| WL.nil <| WQ.seqN <| WC.ret <| WQ.ret1 rfl rfl ?_
  obtain rfl := Option.some.inj HF
  exact ⟨_, rfl, h2, S5, rfl⟩
 exact ⟨h0, 0, HF, rfl, S0, Hle.refl _⟩
theorem all_lexis_isRun : ∀ k j, j ≤ k → C_lexis_isRun (tie_lexis_isRun j).lexis_isRun := by
  intro k
  induction k with
  | zero =>
    intro j hj
    obtain rfl : j = 0 := by omega
    exact (fun _ _ => by intro h; cases h)
  | succ k ih =>
    intro j hj
    by_cases h : j ≤ k
    · exact ih j h
    · obtain rfl : j = k + 1 := by omega
      exact s_lexis_isRun k ih
theorem ok_lexis_isRun (k : Nat) : C_lexis_isRun (F_lexis_isRun k) := (all_lexis_isRun k k (Nat.le_refl _))

def C_lexis_IsName (φ : ByteArray → Option Bool) : Prop := ∀ ⦃x1 : ByteArray⦄ ⦃r : Bool⦄, φ x1 = some r → ∀ ⦃w0 : World⦄ ⦃h0 : Hp⦄, Sub h0 w0 →
  Calls Tryz.prog 89 #[.string x1] w0 fun e w1 => ∃ v, e = .returned v ∧ ∃ h1, Stp [] w0 h0 w1 h1 ∧ v = .bool r
theorem s_lexis_IsName (k : Nat) : C_lexis_IsName (F_lexis_IsName k) := by
 intro x1 r HF w0 h0  hs0 
 have S0 : Stp [] w0 h0 w0 h0 := Stp.refl hs0 _
 refine enter (n := 15) Tryz.func89 rfl Tryz.ntmps89 rfl [(0, .string x1)] rfl <| WC.seq <| WC.region <| Wa rfl rfl <| WL.nil <| WQ.seqN <| WC.seq <| WC.region <| Wm rfl rfl ?_
 obtain ⟨r2, hr3, HF⟩ := bind_some HF
 refine Wc rfl (oc_func (vs := [.string x1]) rfl t_ent_149) (ok_lexis_isRun _ hr3 S0.sub) ?_
 rintro _ w5 ⟨h6, s7, rfl⟩
 have S8 := S0.trans0 s7
 refine Wm rfl rfl <| WL.sF 5 HF rfl (fun HF => ?_) (fun HF => ?_)
 ·refine Wm rfl rfl <| Wv rfl (ov_lenS rfl t_string_9) <| Wv rfl (ov_leq rfl rfl) <| Wv rfl (ov_pickT rfl rfl) <| Wm rfl rfl <| WL.sF 10 HF rfl (fun HF => ?_) (fun HF => ?_)
  ·refine Wm rfl rfl ?_
   obtain ⟨r11, hr12, HF⟩ := bind_some HF
   refine Wc rfl (oc_func (vs := [.string x1]) rfl t_ent_93) (ok_lexis_IsWord _ hr12 S8.sub) ?_
   rintro _ w14 ⟨h15, s16, rfl⟩
   have S17 := S8.trans0 s16
   refine Wv rfl (ov_not rfl) <| Wv rfl (ov_pickT rfl rfl) <| Wa rfl rfl <| WL.nil <| WQ.seqN <| WC.ret <| WQ.ret1 rfl rfl ?_
   obtain rfl := Option.some.inj HF
   exact ⟨_, rfl, h15, S17, rfl⟩
  refine Wp rfl <| Wp rfl <| Wp rfl <| Wv rfl (ov_pickF rfl rfl) <| Wa rfl rfl <| WL.nil <| WQ.seqN <| WC.ret <| WQ.ret1 rfl rfl ?_
  obtain rfl := Option.some.inj HF
  exact ⟨_, rfl, h6, S8, rfl⟩
 refine Wp rfl <| Wp rfl <| Wp rfl <| Wv rfl (ov_pickF rfl rfl) <| Wm rfl rfl <| Wp rfl <| Wp rfl <| Wp rfl <| Wv rfl (ov_pickF rfl rfl) <| Wa rfl rfl <| WL.nil <| WQ.seqN <| WC.ret <| WQ.ret1 rfl rfl ?_
 obtain rfl := Option.some.inj HF
 exact ⟨_, rfl, h6, S8, rfl⟩
theorem ok_lexis_IsName (k : Nat) : C_lexis_IsName (F_lexis_IsName k) := s_lexis_IsName k

def C_ast_isNamed (φ : ByteArray → Bool → Option Bool) : Prop := ∀ ⦃x1 : ByteArray⦄ ⦃x2 : Bool⦄ ⦃r : Bool⦄, φ x1 x2 = some r → ∀ ⦃w0 : World⦄ ⦃h0 : Hp⦄, Sub h0 w0 →
  Calls Tryz.prog 129 #[.string x1, .bool x2] w0 fun e w1 => ∃ v, e = .returned v ∧ ∃ h1, Stp [] w0 h0 w1 h1 ∧ v = .bool r
theorem s_ast_isNamed (k : Nat) : C_ast_isNamed (F_ast_isNamed k) := by
 intro x1 x2 r HF w0 h0  hs0 
 have S0 : Stp [] w0 h0 w0 h0 := Stp.refl hs0 _
 refine enter (n := 10) Tryz.func129 rfl Tryz.ntmps129 rfl [(0, .string x1), (1, .bool x2)] rfl <| WC.seq <| WC.region <| Wa rfl rfl <| WL.nil <| WQ.seqN <| WC.join (fun E w12 => ∃ (h11 : Hp), ast_isNamed_j1 k x1 = some r ∧ E = [(0, .string x1)] ∧ Stp [] w0 h0 w12 h11 ∧ Hle h0 h11) ?_ ?_
 ·rintro E w12 ⟨h11, HF, rfl, S14, le13⟩
  refine WC.seq <| WC.region <| Wm rfl rfl <| Wv rfl (ov_eqlS rfl rfl) <| Wa rfl rfl <| WL.nil <| WQ.seqN <| WC.ret <| WQ.ret1 rfl rfl ?_
  obtain rfl := Option.some.inj HF
  exact ⟨_, rfl, h11, S14, rfl⟩
 intro J15
 refine WC.seq <| WC.region <| Wm rfl rfl <| WL.nil <| WQ.seqN <| WC.cF HF rfl (fun HF => ?_) (fun HF => ?_)
 ·refine WC.seq <| WC.region <| Wm rfl rfl ?_
  obtain ⟨r4, hr5, HF⟩ := bind_some HF
  refine Wc rfl (oc_func (vs := [.string x1]) rfl t_ent_89) (ok_lexis_IsName _ hr5 S0.sub) ?_
  rintro _ w7 ⟨h8, s9, rfl⟩
  have S10 := S0.trans0 s9
  refine Wa rfl rfl <| WL.nil <| WQ.seqN <| WC.ret <| WQ.thenRet <| WQ.ret1 rfl rfl ?_
  obtain rfl := Option.some.inj HF
  exact ⟨_, rfl, h8, S10, rfl⟩
 refine WC.skip <| WC.to [0] _ rfl ?_
 exact J15 ⟨h0, HF, rfl, S0, Hle.refl _⟩
theorem ok_ast_isNamed (k : Nat) : C_ast_isNamed (F_ast_isNamed k) := s_ast_isNamed k

def C_ast_Counter_Add (φ : Int → Int → Int → Option (Bool × Int × Int)) : Prop := ∀ ⦃x3 : Int⦄ ⦃x4 : Int⦄ ⦃x6 : Int⦄ ⦃r : Bool × Int × Int⦄, φ x3 x4 x6 = some r → ∀ ⦃w0 : World⦄ ⦃h0 : Hp⦄ ⦃b1 : Nat⦄ ⦃T2 : Nat⦄, Sub h0 w0 → OB w0 h0 b1 T2 [.int .i64 x3, .int .i64 x4] →
  Calls Tryz.prog 128 #[.pointer (some ⟨b1, 0, none⟩), .int .i64 x6] w0 fun e w1 => ∃ v, e = .returned v ∧ ∃ h1, Stp [b1] w0 h0 w1 h1 ∧ v = .bool r.1 ∧ (OB w1 h1 b1 T2 [.int .i64 r.2.1, .int .i64 r.2.2])
theorem s_ast_Counter_Add (k : Nat) : C_ast_Counter_Add (F_ast_Counter_Add k) := by
 intro x3 x4 x6 r HF w0 h0 b1 T2 hs0 ob5
 have S0 : Stp [b1] w0 h0 w0 h0 := Stp.refl hs0 _
 have lt7 : b1 < w0.heap.size := OB.lt ob5
 refine enter (n := 30) Tryz.func128 rfl Tryz.ntmps128 rfl [(0, pt b1 0), (1, vi x6)] rfl <| WC.seq <| WC.region <| Wa rfl rfl <| WL.nil <| WQ.seqN <| WC.seq <| WC.region <| Wm rfl rfl <| Wv rfl (ov_nilCheck rfl) <| Wv rfl (ov_fieldAddr rfl t_field_87_0) <| Wv rfl (ov_load1 rfl t_agg_3 (OB.cell ob5 (j := 0) rfl)) <| Wv rfl (ov_add rfl rfl) <| Wv rfl (ov_nilCheck rfl) <| Wv rfl (ov_fieldAddr rfl t_field_87_0) <| WL.store (vs := [vi (IntKind.i64.wrap (x3 + 1))]) rfl rfl rfl rfl t_size_3 (one_cons rfl one_nil) ob5 S0.sub (by simp) (ds := [vi (IntKind.i64.wrap (x3 + 1)), vi x4]) rfl (fun w8 s9 ob10 => ?_)
 have S11 := S0.trans1 s9 (.inl (by simp))
 refine WL.nil <| WQ.seqN <| WC.seq <| WC.region <| Wm rfl rfl <| Wm rfl rfl <| Wv rfl (ov_nilCheck rfl) <| Wv rfl (ov_fieldAddr rfl t_field_87_1) <| Wv rfl (ov_load1 rfl t_agg_3 (OB.cell ob10 (j := 1) rfl)) <| Wm rfl rfl <| Wv rfl (ov_max rfl rfl) <| Wv rfl (ov_nilCheck rfl) <| Wv rfl (ov_fieldAddr rfl t_field_87_1) <| WL.store (vs := [vi (imax x4 x6)]) rfl rfl rfl rfl t_size_3 (one_cons rfl one_nil) ob10 S11.sub (by simp) (ds := [vi (IntKind.i64.wrap (x3 + 1)), vi (imax x4 x6)]) rfl (fun w12 s13 ob14 => ?_)
 have S15 := S11.trans1 s13 (.inl (by simp))
 refine WL.nil <| WQ.seqN <| WC.seq <| WC.region <| Wm rfl rfl <| Wv rfl (ov_nilCheck rfl) <| Wv rfl (ov_fieldAddr rfl t_field_87_0) <| Wv rfl (ov_load1 rfl t_agg_3 (OB.cell ob14 (j := 0) rfl)) <| Wv rfl (ov_leq rfl rfl) <| Wm rfl rfl <| WL.sF 26 HF rfl (fun HF => ?_) (fun HF => ?_)
 ·refine Wm rfl rfl <| Wv rfl (ov_leq rfl rfl) <| Wv rfl (ov_pickT rfl rfl) <| Wa rfl rfl <| WL.nil <| WQ.seqN <| WC.ret <| WQ.ret1 rfl rfl ?_
  obtain rfl := Option.some.inj HF
  exact ⟨_, rfl, h0, S15, rfl, ob14⟩
 refine Wp rfl <| Wp rfl <| Wv rfl (ov_pickF rfl rfl) <| Wa rfl rfl <| WL.nil <| WQ.seqN <| WC.ret <| WQ.ret1 rfl rfl ?_
 obtain rfl := Option.some.inj HF
 exact ⟨_, rfl, h0, S15, rfl, ob14⟩
theorem ok_ast_Counter_Add (k : Nat) : C_ast_Counter_Add (F_ast_Counter_Add k) := s_ast_Counter_Add k

def C_ast_Counter_Expr (φ : Int → Int → Ex → Int → Option (Bool × Int × Int)) : Prop := ∀ ⦃x3 : Int⦄ ⦃x4 : Int⦄ ⦃x6 : Ex⦄ ⦃x9 : Int⦄ ⦃r : Bool × Int × Int⦄, φ x3 x4 x6 x9 = some r → ∀ ⦃w0 : World⦄ ⦃h0 : Hp⦄ ⦃b1 : Nat⦄ ⦃T2 : Nat⦄ ⦃cs7 : List Value⦄, Sub h0 w0 → Rp.R h0 x6 cs7 → OB w0 h0 b1 T2 [.int .i64 x3, .int .i64 x4] →
  Calls Tryz.prog 80 #[.pointer (some ⟨b1, 0, none⟩), .agg cs7.toArray, .int .i64 x9] w0 fun e w1 => ∃ v, e = .returned v ∧ ∃ h1, Stp [b1] w0 h0 w1 h1 ∧ v = .bool r.1 ∧ (OB w1 h1 b1 T2 [.int .i64 r.2.1, .int .i64 r.2.2])
def C_ast_Counter_Exprs (φ : Int → Int → (List Ex) → Int → Option (Bool × Int × Int)) : Prop := ∀ ⦃x3 : Int⦄ ⦃x4 : Int⦄ ⦃xs6 : List Ex⦄ ⦃x9 : Int⦄ ⦃r : Bool × Int × Int⦄, φ x3 x4 xs6 x9 = some r → ∀ ⦃w0 : World⦄ ⦃h0 : Hp⦄ ⦃b1 : Nat⦄ ⦃T2 : Nat⦄ ⦃v7 : Value⦄, Sub h0 w0 → RS h0 v7 xs6 → OB w0 h0 b1 T2 [.int .i64 x3, .int .i64 x4] →
  Calls Tryz.prog 134 #[.pointer (some ⟨b1, 0, none⟩), v7, .int .i64 x9] w0 fun e w1 => ∃ v, e = .returned v ∧ ∃ h1, Stp [b1] w0 h0 w1 h1 ∧ v = .bool r.1 ∧ (OB w1 h1 b1 T2 [.int .i64 r.2.1, .int .i64 r.2.2])
theorem s_ast_Counter_Expr (k : Nat) (IH : ∀ j, j ≤ k → C_ast_Counter_Expr (tie_ast_Counter_Expr j).ast_Counter_Expr ∧ C_ast_Counter_Exprs (tie_ast_Counter_Expr j).ast_Counter_Exprs) : C_ast_Counter_Expr (m_ast_Counter_Expr k (tie_ast_Counter_Expr k)) := by
 intro x3 x4 x6 x9 r HF w0 h0 b1 T2 cs7 hs0 r8 ob5
 have S0 : Stp [b1] w0 h0 w0 h0 := Stp.refl hs0 _
 have lt10 : b1 < w0.heap.size := OB.lt ob5
 refine enter (n := 82) Tryz.func80 rfl Tryz.ntmps80 rfl [(0, pt b1 0), (1, .agg cs7.toArray), (2, vi x9)] rfl <| WC.seq <| WC.region ?_
 obtain ⟨v11, rfl, rs12⟩ := rp_Ex.1 r8
 refine WL.box (cs := [vi x6.op, vi x6.kind, vi x6.n, .string x6.s, .string x6.f, v11]) rfl rfl rfl rfl S0.sub (fun w13 b14 hb15 s16 ob17 => ?_)
 have ne18 : b1 ≠ b14 := ob5.ne_new hb15
 have g19 : w0.heap.size ≤ b14 := by rw [hb15]; exact S0.size
 have S20 := S0.trans0 s16
 refine Wa rfl rfl <| WL.nil <| WQ.seqN <| WC.join (fun E w47 => ∃ (h46 : Hp) (x50 : Int) (x51 : Int), ast_Counter_Expr_j2 k (tie_ast_Counter_Expr k) x6 x9 x50 x51 = some r ∧ E = [(0, pt b1 0), (2, vi x9), (4, pt b14 0)] ∧ Stp [b1] w0 h0 w47 h46 ∧ Hle h0 h46 ∧ OB w47 h46 b1 T2 [vi x50, vi x51] ∧ OB w47 h46 b14 47 [vi x6.op, vi x6.kind, vi x6.n, .string x6.s, .string x6.f, v11]) ?_ ?_
 ·rintro E w47 ⟨h46, x50, x51, HF, rfl, S49, le48, ob52, ob53⟩
  refine WC.seq <| WC.region <| Wa rfl rfl <| Wa rfl rfl <| Wa rfl rfl <| WL.nil <| WQ.seqN <| WC.join (fun E w96 => ∃ (h95 : Hp) (x99 : Bool) (x100 : Bool) (x101 : Int), ast_Counter_Expr_j4 k (tie_ast_Counter_Expr k) x6 x9 x50 x51 x99 x100 x101 = some r ∧ E = [(0, pt b1 0), (2, vi x9), (4, pt b14 0), (7, .bool x99), (8, .bool x100), (9, vi x101)] ∧ Stp [b1] w0 h0 w96 h95 ∧ Hle h46 h95 ∧ OB w96 h95 b1 T2 [vi x50, vi x51] ∧ OB w96 h95 b14 47 [vi x6.op, vi x6.kind, vi x6.n, .string x6.s, .string x6.f, v11]) ?_ ?_
  ·rintro E w96 ⟨h95, x99, x100, x101, HF, rfl, S98, le97, ob102, ob103⟩
   refine WC.seq <| WC.region <| Wv rfl (ov_fieldAddr rfl t_field_47_3) <| Wv rfl (ov_load1 rfl t_agg_9 (OB.cell ob103 (j := 3) rfl)) <| Wm rfl rfl ?_
   obtain ⟨r104, hr105, HF⟩ := bind_some HF
   refine Wc rfl (oc_func (vs := [.string x6.s, .bool x99]) rfl t_ent_129) (ok_ast_isNamed _ hr105 S98.sub) ?_
   rintro _ w107 ⟨h108, s109, rfl⟩
   have S110 := S98.trans0 s109
   refine Wm rfl rfl <| WL.sF 61 HF rfl (fun HF => ?_) (fun HF => ?_)
   ·refine Wv rfl (ov_fieldAddr rfl t_field_47_4) ?_
    have ob112 := (ob103.step0 s109)
    refine Wv rfl (ov_load1 rfl t_agg_9 (OB.cell ob112 (j := 4) rfl)) <| Wm rfl rfl ?_
    obtain ⟨r113, hr114, HF⟩ := bind_some HF
    refine Wc rfl (oc_func (vs := [.string x6.f, .bool x100]) rfl t_ent_129) (ok_ast_isNamed _ hr114 S110.sub) ?_
    rintro _ w116 ⟨h117, s118, rfl⟩
    have S119 := S110.trans0 s118
    refine Wv rfl (ov_pickT rfl rfl) <| Wm rfl rfl <| WL.sF 67 HF rfl (fun HF => ?_) (fun HF => ?_)
    ·refine Wv rfl (ov_fieldAddr rfl t_field_47_5) ?_
     have ob121 := (ob112.step0 s118)
     refine Wv rfl (ov_load1 rfl t_agg_45 (OB.cell ob121 (j := 5) rfl)) ?_
     obtain ⟨A122, c123, rfl, rs124⟩ := RS.form (rs12.mono ((s16.le).trans ((le48).trans ((le97).trans ((s109.le).trans s118.le)))))
     refine Wv rfl (ov_lenL rfl t_slice_45) <| Wm rfl rfl <| Wv rfl (ov_eql rfl rfl) <| Wv rfl (ov_pickT rfl rfl) <| Wm rfl rfl <| WL.sF 74 HF rfl (fun HF => ?_) (fun HF => ?_)
     ·refine Wm rfl rfl <| Wv rfl (ov_fieldAddr rfl t_field_47_5) <| Wv rfl (ov_load1 rfl t_agg_45 (OB.cell ob121 (j := 5) rfl)) <| Wm rfl rfl <| Wv rfl (ov_add rfl rfl) ?_
      have ob126 := ((ob102.step0 s109).step0 s118)
      obtain ⟨r127, hr128, HF⟩ := bind_some HF
      refine Wc rfl (oc_func (vs := [pt b1 0, .slice A122 (x6.args).length c123, vi (IntKind.i64.wrap (x9 + 1))]) rfl t_ent_134) ((IH _ (Nat.le_refl _)).2 hr128 S119.sub rs124 ob126) ?_
      rintro _ w130 ⟨h131, s132, rfl, ob133⟩
      have S134 := S119.trans s132 (in_cons (.inl (by simp)) in_nil)
      refine Wv rfl (ov_pickT rfl rfl) <| Wa rfl rfl <| WL.nil <| WQ.seqN <| WC.ret <| WQ.ret1 rfl rfl ?_
      obtain rfl := Option.some.inj HF
      exact ⟨_, rfl, h131, S134, rfl, ob133⟩
     refine Wp rfl <| Wp rfl <| Wp rfl <| Wp rfl <| Wp rfl <| Wp rfl <| Wv rfl (ov_pickF rfl rfl) <| Wa rfl rfl <| WL.nil <| WQ.seqN <| WC.ret ?_
     have ob135 := ((ob102.step0 s109).step0 s118)
     refine WQ.ret1 rfl rfl ?_
     obtain rfl := Option.some.inj HF
     exact ⟨_, rfl, h117, S119, rfl, ob135⟩
    refine Wp rfl <| Wp rfl <| Wp rfl <| Wp rfl <| Wp rfl <| Wv rfl (ov_pickF rfl rfl) <| Wm rfl rfl <| Wp rfl <| Wp rfl <| Wp rfl <| Wp rfl <| Wp rfl <| Wp rfl <| Wv rfl (ov_pickF rfl rfl) <| Wa rfl rfl <| WL.nil <| WQ.seqN <| WC.ret ?_
    have ob136 := ((ob102.step0 s109).step0 s118)
    refine WQ.ret1 rfl rfl ?_
    obtain rfl := Option.some.inj HF
    exact ⟨_, rfl, h117, S119, rfl, ob136⟩
   refine Wp rfl <| Wp rfl <| Wp rfl <| Wp rfl <| Wv rfl (ov_pickF rfl rfl) <| Wm rfl rfl <| Wp rfl <| Wp rfl <| Wp rfl <| Wp rfl <| Wp rfl <| Wv rfl (ov_pickF rfl rfl) <| Wm rfl rfl <| Wp rfl <| Wp rfl <| Wp rfl <| Wp rfl <| Wp rfl <| Wp rfl <| Wv rfl (ov_pickF rfl rfl) <| Wa rfl rfl <| WL.nil <| WQ.seqN <| WC.ret ?_
   have ob137 := (ob102.step0 s109)
   refine WQ.ret1 rfl rfl ?_
   obtain rfl := Option.some.inj HF
   exact ⟨_, rfl, h108, S110, rfl, ob137⟩
  intro J138
  refine WC.seq <| WC.region <| Wv rfl (ov_fieldAddr rfl t_field_47_0) <| Wv rfl (ov_load1 rfl t_agg_3 (OB.cell ob53 (j := 0) rfl)) <| WL.nil <| WQ.seqN <| WC.block <| WC.seq <| WC.region <| Wv rfl (ov_eql rfl rfl) <| Wa rfl rfl <| WL.nil <| WQ.seqN <| WC.cF HF rfl (fun HF => ?_) (fun HF => ?_)
  ·refine WC.seq <| WC.region <| Wa rfl rfl <| WL.nil <| WQ.seqN <| WC.seq <| WC.region <| Wv rfl (ov_fieldAddr rfl t_field_47_1) <| Wv rfl (ov_load1 rfl t_agg_3 (OB.cell ob53 (j := 1) rfl)) <| Wv rfl (ov_fieldAddr rfl t_field_47_2) <| Wv rfl (ov_load1 rfl t_agg_3 (OB.cell ob53 (j := 2) rfl)) ?_
   obtain ⟨r55, hr56, HF⟩ := bind_some HF
   refine Wc rfl (oc_func (vs := [vi x6.kind, vi x6.n]) rfl t_ent_139) (ok_ast_IsConst _ hr56 S49.sub) ?_
   rintro _ w58 ⟨h59, s60, rfl⟩
   have S61 := S49.trans0 s60
   refine Wv rfl (ov_not rfl) <| WL.nil <| WQ.seqN <| WC.cF HF rfl (fun HF => ?_) (fun HF => ?_)
   ·refine WC.seq <| WC.region <| Wa rfl rfl <| WL.nil <| WQ.seqN <| WC.ret <| WQ.blockRet <| WQ.thenRet ?_
    have ob63 := (ob52.step0 s60)
    refine WQ.ret1 rfl rfl ?_
    obtain rfl := Option.some.inj HF
    exact ⟨_, rfl, h59, S61, rfl, ob63⟩
   refine WC.skip <| WQ.blockN ?_
   have ob139 := (ob52.step0 s60)
   have ob140 := (ob53.step0 s60)
   refine WC.to [0, 2, 4, 7, 8, 9] _ rfl ?_
   exact J138 ⟨h59, false, false, 0, HF, rfl, S61, s60.le, ob139, ob140⟩
  refine WC.seq <| WC.region <| Wv rfl (ov_eql rfl rfl) <| Wa rfl rfl <| WL.nil <| WQ.seqN <| WC.cF HF rfl (fun HF => ?_) (fun HF => ?_)
  ·refine WC.region <| Wa rfl rfl <| Wa rfl rfl <| WL.nil <| WQ.blockN <| WC.to [0, 2, 4, 7, 8, 9] _ rfl ?_
   exact J138 ⟨h46, true, false, 0, HF, rfl, S49, Hle.refl _, ob52, ob53⟩
  refine WC.seq <| WC.region <| Wv rfl (ov_eql rfl rfl) <| Wa rfl rfl <| WL.nil <| WQ.seqN <| WC.cF HF rfl (fun HF => ?_) (fun HF => ?_)
  ·refine WC.region <| Wa rfl rfl <| Wa rfl rfl <| Wa rfl rfl <| WL.nil <| WQ.blockN <| WC.to [0, 2, 4, 7, 8, 9] _ rfl ?_
   exact J138 ⟨h46, true, true, 0, HF, rfl, S49, Hle.refl _, ob52, ob53⟩
  refine WC.seq <| WC.region <| Wv rfl (ov_eql rfl rfl) <| Wa rfl rfl <| WL.nil <| WQ.seqN <| WC.cF HF rfl (fun HF => ?_) (fun HF => ?_)
  ·refine WC.region <| Wa rfl rfl <| Wa rfl rfl <| WL.nil <| WQ.blockN <| WC.to [0, 2, 4, 7, 8, 9] _ rfl ?_
   exact J138 ⟨h46, true, false, 1, HF, rfl, S49, Hle.refl _, ob52, ob53⟩
  refine WC.seq <| WC.region <| Wv rfl (ov_eql rfl rfl) <| Wa rfl rfl <| WL.nil <| WQ.seqN <| WC.cF HF rfl (fun HF => ?_) (fun HF => ?_)
  ·obtain ⟨A68, c69, rfl, rs70⟩ := RS.form (rs12.mono ((s16.le).trans le48))
   refine WC.drawn (m := 4) [(0, pt b1 0), (2, vi x9), (4, pt b14 0), (8, .bool false), (9, vi 2)] [0, 2, 4, 8, 9] rfl (fun i v w h => match i with | 0 => v = pt b14 5 | 1 => v = .slice A68 (x6.args).length c69 | 2 => v = vi (x6.args.length : Int) | 3 => v = .bool true | _ => True) t_mixed S49.sub rfl rfl rfl rfl rfl ?_ ?_ ?_
   ·intro i v w h w2 h2 hΦ hst
    match i, hΦ with
    | 0, hΦ | 1, hΦ | 2, hΦ | 3, hΦ => exact hΦ
    | i + 4, _ => exact trivial
   ·refine ⟨?_, ?_, ?_, ?_, trivial⟩
    ·intro a w71 h72 s73 hat hF
     exact front_val hat rfl (ov_fieldAddr rfl t_field_47_5) s73.sub (by exact rfl)
    ·intro a w71 h72 s73 hat hF
     have ob74 := (ob53.step0 s73)
     exact front_val (At.cons hat (hF 0 51 rfl rfl)) rfl (ov_load1 rfl t_agg_45 (OB.cell ob74 (j := 5) rfl)) s73.sub (by exact rfl)
    ·intro a w71 h72 s73 hat hF
     exact front_val (At.cons hat (hF 1 52 rfl rfl)) rfl (ov_lenL rfl t_slice_45) s73.sub (by exact rfl)
    intro a w71 h72 s73 hat hF
    exact front_val hat rfl (ov_assign rfl) s73.sub (by exact rfl)
   intro a w71 h72 s73 hat hF
   obtain hv0 := hF 0 51 (by decide) rfl
   obtain hv1 := hF 1 52 (by decide) rfl
   obtain hv2 := hF 2 53 (by decide) rfl
   obtain hv3 := hF 3 7 (by decide) rfl
   refine WL.at_ [(7, .bool true), (53, vi (x6.args.length : Int)), (52, .slice A68 (x6.args).length c69), (51, pt b14 5), (0, pt b1 0), (2, vi x9), (4, pt b14 0), (8, .bool false), (9, vi 2)] (At.cons (At.cons (At.cons (At.cons hat hv0) hv1) hv2) hv3) ?_
   have S75 := S49.trans0 s73
   refine Wa rfl rfl <| WL.nil <| WQ.blockN ?_
   have ob141 := (ob52.step0 s73)
   have ob142 := (ob53.step0 s73)
   refine WC.to [0, 2, 4, 7, 8, 9] _ rfl ?_
   exact J138 ⟨h72, true, false, (x6.args.length : Int), HF, rfl, S75, s73.le, ob141, ob142⟩
  refine WC.join (fun E w78 => ∃ (h77 : Hp) (x81 : Bool), ast_Counter_Expr_j3 k (tie_ast_Counter_Expr k) x6 x9 x50 x51 x81 = some r ∧ E = [(0, pt b1 0), (2, vi x9), (4, pt b14 0), (7, .bool false), (8, .bool false), (9, vi 2), (54, .bool x81)] ∧ Stp [b1] w0 h0 w78 h77 ∧ Hle h46 h77 ∧ OB w78 h77 b1 T2 [vi x50, vi x51] ∧ OB w78 h77 b14 47 [vi x6.op, vi x6.kind, vi x6.n, .string x6.s, .string x6.f, v11]) ?_ ?_
  ·rintro E w78 ⟨h77, x81, HF, rfl, S80, le79, ob82, ob83⟩
   refine WC.cF HF rfl (fun HF => ?_) (fun HF => ?_)
   ·refine WC.region <| Wa rfl rfl <| WL.nil <| WQ.blockN <| WC.to [0, 2, 4, 7, 8, 9] _ rfl ?_
    exact J138 ⟨h77, false, false, 1, HF, rfl, S80, le79, ob82, ob83⟩
   refine WC.seq <| WC.region <| Wv rfl (ov_fieldAddr rfl t_field_47_0) <| Wv rfl (ov_load1 rfl t_agg_3 (OB.cell ob83 (j := 0) rfl)) ?_
   obtain ⟨r85, hr86, HF⟩ := bind_some HF
   refine Wc rfl (oc_func (vs := [vi x6.op, vi 8, vi 21]) rfl t_ent_130) (ok_ast_within _ hr86 S80.sub) ?_
   rintro _ w88 ⟨h89, s90, rfl⟩
   have S91 := S80.trans0 s90
   refine Wv rfl (ov_not rfl) <| WL.nil <| WQ.seqN <| WC.cF HF rfl (fun HF => ?_) (fun HF => ?_)
   ·refine WC.seq <| WC.region <| Wa rfl rfl <| WL.nil <| WQ.seqN <| WC.ret <| WQ.blockRet <| WQ.thenRet ?_
    have ob93 := (ob82.step0 s90)
    refine WQ.ret1 rfl rfl ?_
    obtain rfl := Option.some.inj HF
    exact ⟨_, rfl, h89, S91, rfl, ob93⟩
   refine WC.skip <| WQ.blockN ?_
   have ob143 := (ob82.step0 s90)
   have ob144 := (ob83.step0 s90)
   refine WC.to [0, 2, 4, 7, 8, 9] _ rfl ?_
   exact J138 ⟨h89, false, false, 2, HF, rfl, S91, (le79).trans s90.le, ob143, ob144⟩
  intro J94
  refine WC.seq <| WC.region <| Wv rfl (ov_eql rfl rfl) <| Wa rfl rfl <| WL.nil <| WQ.seqN <| WC.cF HF rfl (fun HF => ?_) (fun HF => ?_)
  ·refine WC.skip <| WC.to [0, 2, 4, 7, 8, 9, 54] _ rfl ?_
   exact J94 ⟨h46, (x6.op : Int) == 6, HF, rfl, S49, Hle.refl _, ob52, ob53⟩
  refine WC.region <| Wv rfl (ov_eql rfl rfl) <| Wa rfl rfl <| WL.nil <| WC.to [0, 2, 4, 7, 8, 9, 54] _ rfl ?_
  exact J94 ⟨h46, (x6.op : Int) == 7, HF, rfl, S49, Hle.refl _, ob52, ob53⟩
 intro J145
 refine WC.join (fun E w35 => ∃ (h34 : Hp) (x38 : Bool) (x39 : Int) (x40 : Int), ast_Counter_Expr_j1 k (tie_ast_Counter_Expr k) x6 x9 x38 x39 x40 = some r ∧ E = [(0, pt b1 0), (2, vi x9), (4, pt b14 0), (28, .bool x38)] ∧ Stp [b1] w0 h0 w35 h34 ∧ Hle h0 h34 ∧ OB w35 h34 b1 T2 [vi x39, vi x40] ∧ OB w35 h34 b14 47 [vi x6.op, vi x6.kind, vi x6.n, .string x6.s, .string x6.f, v11]) ?_ ?_
 ·rintro E w35 ⟨h34, x38, x39, x40, HF, rfl, S37, le36, ob41, ob42⟩
  refine WC.cF HF rfl (fun HF => ?_) (fun HF => ?_)
  ·refine WC.seq <| WC.region <| Wa rfl rfl <| WL.nil <| WQ.seqN <| WC.ret <| WQ.thenRet <| WQ.ret1 rfl rfl ?_
   obtain rfl := Option.some.inj HF
   exact ⟨_, rfl, h34, S37, rfl, ob41⟩
  refine WC.skip <| WC.to [0, 2, 4] _ rfl ?_
  exact J145 ⟨h34, x39, x40, HF, rfl, S37, le36, ob41, ob42⟩
 intro J44
 refine WC.region <| Wm rfl rfl <| Wm rfl rfl ?_
 have ob21 := (ob5.step0 s16)
 obtain ⟨r22, hr23, HF⟩ := bind_some HF
 refine Wc rfl (oc_func (vs := [pt b1 0, vi x9]) rfl t_ent_128) (ok_ast_Counter_Add _ hr23 S20.sub ob21) ?_
 rintro _ w25 ⟨h26, s27, rfl, ob28⟩
 have S29 := S20.trans s27 (in_cons (.inl (by simp)) in_nil)
 refine Wv rfl (ov_not rfl) <| Wm rfl rfl <| WL.sF 14 HF rfl (fun HF => ?_) (fun HF => ?_)
 ·refine Wp rfl <| Wp rfl <| Wp rfl <| Wp rfl <| Wp rfl <| Wp rfl <| Wp rfl <| Wp rfl <| Wp rfl <| Wp rfl <| Wp rfl <| Wp rfl <| Wp rfl <| Wv rfl (ov_pickT rfl rfl) <| WL.nil ?_
  have ob45 := (ob17.step1 s27 (Ne.symm ne18))
  refine WC.to [0, 2, 4, 28] _ rfl ?_
  exact J44 ⟨h26, true, r22.2.1, r22.2.2, HF, rfl, S29, s27.le, ob28, ob45⟩
 refine Wv rfl (ov_fieldAddr rfl t_field_47_0) ?_
 have ob31 := (ob17.step1 s27 (Ne.symm ne18))
 refine Wv rfl (ov_load1 rfl t_agg_3 (OB.cell ob31 (j := 0) rfl)) <| Wv rfl (ov_neq rfl rfl) <| Wm rfl rfl <| WL.sF 18 HF rfl (fun HF => ?_) (fun HF => ?_)
 ·refine Wv rfl (ov_fieldAddr rfl t_field_47_1) <| Wv rfl (ov_load1 rfl t_agg_3 (OB.cell ob31 (j := 1) rfl)) <| Wv rfl (ov_neq rfl rfl) <| Wm rfl rfl <| WL.sF 22 HF rfl (fun HF => ?_) (fun HF => ?_)
  ·refine Wp rfl <| Wp rfl <| Wp rfl <| Wv rfl (ov_pickT rfl rfl) <| Wv rfl (ov_pickT rfl rfl) <| Wv rfl (ov_pickF rfl rfl) <| WL.nil <| WC.to [0, 2, 4, 28] _ rfl ?_
   exact J44 ⟨h26, true, r22.2.1, r22.2.2, HF, rfl, S29, s27.le, ob28, ob31⟩
  refine Wv rfl (ov_fieldAddr rfl t_field_47_2) <| Wv rfl (ov_load1 rfl t_agg_3 (OB.cell ob31 (j := 2) rfl)) <| Wv rfl (ov_neq rfl rfl) <| Wv rfl (ov_pickF rfl rfl) <| Wv rfl (ov_pickT rfl rfl) <| Wv rfl (ov_pickF rfl rfl) <| WL.nil <| WC.to [0, 2, 4, 28] _ rfl ?_
  exact J44 ⟨h26, (x6.n : Int) != 0, r22.2.1, r22.2.2, HF, rfl, S29, s27.le, ob28, ob31⟩
 refine Wp rfl <| Wp rfl <| Wp rfl <| Wp rfl <| Wp rfl <| Wp rfl <| Wp rfl <| Wp rfl <| Wv rfl (ov_pickF rfl rfl) <| Wv rfl (ov_pickF rfl rfl) <| WL.nil <| WC.to [0, 2, 4, 28] _ rfl ?_
 exact J44 ⟨h26, false, r22.2.1, r22.2.2, HF, rfl, S29, s27.le, ob28, ob31⟩
theorem s_ast_Counter_Exprs (k : Nat) (IH : ∀ j, j ≤ k → C_ast_Counter_Expr (tie_ast_Counter_Expr j).ast_Counter_Expr ∧ C_ast_Counter_Exprs (tie_ast_Counter_Expr j).ast_Counter_Exprs) : C_ast_Counter_Exprs (m_ast_Counter_Exprs k (tie_ast_Counter_Expr k)) := by
 intro x3 x4 xs6 x9 r HF w0 h0 b1 T2 v7 hs0 rs8 ob5
 have S0 : Stp [b1] w0 h0 w0 h0 := Stp.refl hs0 _
 have lt10 : b1 < w0.heap.size := OB.lt ob5
 refine enter (n := 21) Tryz.func134 rfl Tryz.ntmps134 rfl [(0, pt b1 0), (1, v7), (2, vi x9)] rfl <| WC.seq <| WC.region <| Wa rfl rfl <| WL.nil <| WQ.seqN <| WC.seq <| WC.seq <| WC.region <| Wm rfl rfl ?_
 obtain ⟨A11, c12, rfl, rs13⟩ := RS.form rs8
 refine Wv rfl (ov_lenL rfl t_slice_45) <| Wm rfl rfl <| WL.nil <| WQ.seqN <| WC.block <| WC.loop <| WP.to [0, 2, 9, 10, 11] [(0, pt b1 0), (2, vi x9), (9, .slice A11 (xs6).length c12), (10, vi (xs6.length : Int)), (11, vi 0)] rfl <| WP_rule (K := k) (fun j E w15 => ∃ (h14 : Hp) (x18 : Int) (x19 : Int) (x20 : Int), (tie_ast_Counter_Expr j).ast_Counter_Exprs_l1 xs6 x9 x18 x19 x20 = some r ∧ E = [(0, pt b1 0), (2, vi x9), (9, .slice A11 (xs6).length c12), (10, vi (xs6.length : Int)), (11, vi x18)] ∧ Stp [b1] w0 h0 w15 h14 ∧ Hle h0 h14 ∧ OB w15 h14 b1 T2 [vi x19, vi x20]) ?_ ?_ (j := k) (Nat.le_refl _) ?_
 ·rintro E w15 ⟨_, _, _, _, HF, _⟩; cases HF
 ·rintro j22 hj24 IHL23 E w15 ⟨h14, x18, x19, x20, HF, rfl, S17, le16, ob21⟩
  refine WC.seq <| WC.region <| Wv rfl (ov_lss rfl rfl) <| WL.nil <| WQ.seqN <| WC.join (fun E w27 => ∃ (h26 : Hp), ast_Counter_Exprs_j2 j22 (tie_ast_Counter_Expr j22) xs6 x9 x18 x19 x20 = some r ∧ E = [(0, pt b1 0), (2, vi x9), (9, .slice A11 (xs6).length c12), (10, vi (xs6.length : Int)), (11, vi x18)] ∧ Stp [b1] w0 h0 w27 h26 ∧ Hle h14 h26 ∧ OB w27 h26 b1 T2 [vi x19, vi x20]) ?_ ?_
  ·rintro E w27 ⟨h26, HF, rfl, S29, le28, ob30⟩
   refine WC.seq <| WC.block <| WC.seq <| WC.region ?_
   obtain ⟨e31, he32, HF⟩ := bind_some HF
   obtain ⟨b33, o34, rfl, h36, h37, ra35⟩ := RS.atO (rs13.mono ((le16).trans le28)) he32
   obtain ⟨cs38, r39, hc40⟩ := ra35
   refine Wv rfl (ov_indexAddr rfl rfl t_slice_45 t_size_47 h36 h37) <| Wv rfl (ov_loadN (cs := cs38) rfl t_agg_47 (by rw [Rp.len r39]; exact t_size_47) (fun j v hv => S29.sub.at_ _ _ _ (hc40 j v hv))) <| WL.alloc (zs := [vi 0, vi 0, vi 0, .string b'110, .string b'110, .slice none 0 0]) rfl rfl t_zero_47 rfl S29.sub (fun w41 b42 hb43 s44 ob45 => ?_)
   have ne46 : b1 ≠ b42 := ob30.ne_new hb43
   have g47 : w0.heap.size ≤ b42 := by rw [hb43]; exact S29.size
   have S48 := S29.trans0 s44
   obtain ⟨v49, rfl, rs50⟩ := rp_Ex.1 (Rp.mono (s44.le) r39)
   refine WL.store (vs := [vi e31.op, vi e31.kind, vi e31.n, .string e31.s, .string e31.f, v49]) rfl rfl rfl rfl t_size_47 (one_cons rfl (one_cons rfl (one_cons rfl (one_cons rfl (one_cons rfl (one_cons (RS.one rs50) one_nil)))))) ob45 S48.sub (by simp) (ds := [vi e31.op, vi e31.kind, vi e31.n, .string e31.s, .string e31.f, v49]) rfl (fun w51 s52 ob53 => ?_)
   have S54 := S48.trans1 s52 (.inr g47)
   refine WL.nil <| WQ.seqN <| WC.seq <| WC.region <| Wm rfl rfl <| Wv rfl (ov_loadN (cs := [vi e31.op, vi e31.kind, vi e31.n, .string e31.s, .string e31.f, v49]) rfl t_agg_47 t_size_47 (OB.cells ob53 0 rfl)) <| Wm rfl rfl ?_
   have ob55 := ((ob30.step0 s44).step1 s52 ne46)
   obtain ⟨r56, hr57, HF⟩ := bind_some HF
   refine Wc rfl (oc_func (vs := [pt b1 0, .agg #[vi e31.op, vi e31.kind, vi e31.n, .string e31.s, .string e31.f, v49], vi x9]) rfl t_ent_80) ((IH _ (Nat.le_trans (Nat.le_of_succ_le hj24) (Nat.le_refl _))).1 hr57 S54.sub (rp_Ex.2 ⟨_, rfl, (rs50.mono (s52.le))⟩) ob55) ?_
   rintro _ w59 ⟨h60, s61, rfl, ob62⟩
   have S63 := S54.trans s61 (in_cons (.inl (by simp)) in_nil)
   refine Wv rfl (ov_not rfl) <| WL.nil <| WQ.seqN <| WC.cF HF rfl (fun HF => ?_) (fun HF => ?_)
   ·refine WC.seq <| WC.region <| Wa rfl rfl <| WL.nil <| WQ.seqN <| WC.ret <| WQ.blockRet <| WQ.thenRet <| WQ.thenRet <| WQ.blockRet <| WQ.thenRet <| WQ.ret1 rfl rfl ?_
    obtain rfl := Option.some.inj HF
    exact ⟨_, rfl, h60, S63, rfl, ob62⟩
   refine WC.skip <| WQ.blockN <| WQ.seqN <| WC.region <| Wv rfl (ov_add rfl rfl) <| Wm rfl rfl <| WL.nil <| WQ.loopN <| WP.to [0, 2, 9, 10, 11] [(0, pt b1 0), (2, vi x9), (9, sl b33 o34 (xs6).length c12), (10, vi (xs6.length : Int)), (11, vi (IntKind.i64.wrap (x18 + 1)))] rfl ?_
   exact IHL23 j22 (Nat.le_refl _) _ _ ⟨h60, IntKind.i64.wrap (x18 + 1), r56.2.1, r56.2.2, HF, rfl, S63, (le16).trans ((le28).trans ((s44.le).trans ((s52.le).trans s61.le))), ob62⟩
  intro J65
  refine WC.cF HF rfl (fun HF => ?_) (fun HF => ?_)
  ·refine WC.skip <| WC.to [0, 2, 9, 10, 11] _ rfl ?_
   exact J65 ⟨h14, HF, rfl, S17, Hle.refl _, ob21⟩
  refine WC.exit <| WQ.thenExit <| WQ.thenExit <| WQ.blockHit <| WQ.seqN <| WC.seq <| WC.region <| Wa rfl rfl <| WL.nil <| WQ.seqN <| WC.ret <| WQ.ret1 rfl rfl ?_
  obtain rfl := Option.some.inj HF
  exact ⟨_, rfl, h14, S17, rfl, ob21⟩
 exact ⟨h0, 0, x3, x4, HF, rfl, S0, Hle.refl _, ob5⟩
theorem all_ast_Counter_Expr : ∀ k j, j ≤ k → C_ast_Counter_Expr (tie_ast_Counter_Expr j).ast_Counter_Expr ∧ C_ast_Counter_Exprs (tie_ast_Counter_Expr j).ast_Counter_Exprs := by
  intro k
  induction k with
  | zero =>
    intro j hj
    obtain rfl : j = 0 := by omega
    exact ⟨(fun _ _ _ _ _ => by intro h; cases h), (fun _ _ _ _ _ => by intro h; cases h)⟩
  | succ k ih =>
    intro j hj
    by_cases h : j ≤ k
    · exact ih j h
    · obtain rfl : j = k + 1 := by omega
      exact ⟨s_ast_Counter_Expr k ih, s_ast_Counter_Exprs k ih⟩
theorem ok_ast_Counter_Expr (k : Nat) : C_ast_Counter_Expr (F_ast_Counter_Expr k) := (all_ast_Counter_Expr k k (Nat.le_refl _)).1
theorem ok_ast_Counter_Exprs (k : Nat) : C_ast_Counter_Exprs (F_ast_Counter_Exprs k) := (all_ast_Counter_Expr k k (Nat.le_refl _)).2

def C_ast_IsExpr (φ : Ex → Option Bool) : Prop := ∀ ⦃x1 : Ex⦄ ⦃r : Bool⦄, φ x1 = some r → ∀ ⦃w0 : World⦄ ⦃h0 : Hp⦄ ⦃cs2 : List Value⦄, Sub h0 w0 → Rp.R h0 x1 cs2 →
  Calls Tryz.prog 47 #[.agg cs2.toArray] w0 fun e w1 => ∃ v, e = .returned v ∧ ∃ h1, Stp [] w0 h0 w1 h1 ∧ v = .bool r
theorem s_ast_IsExpr (k : Nat) : C_ast_IsExpr (F_ast_IsExpr k) := by
 intro x1 r HF w0 h0 cs2 hs0 r3
 have S0 : Stp [] w0 h0 w0 h0 := Stp.refl hs0 _
 refine enter (n := 6) Tryz.func47 rfl Tryz.ntmps47 rfl [(0, .agg cs2.toArray)] rfl <| WC.seq <| WC.region ?_
 obtain ⟨v4, rfl, rs5⟩ := rp_Ex.1 r3
 refine WL.box (cs := [vi x1.op, vi x1.kind, vi x1.n, .string x1.s, .string x1.f, v4]) rfl rfl rfl rfl S0.sub (fun w6 b7 hb8 s9 ob10 => ?_)
 have g11 : w0.heap.size ≤ b7 := by rw [hb8]; exact S0.size
 have S12 := S0.trans0 s9
 refine Wa rfl rfl <| WL.nil <| WQ.seqN <| WC.seq <| WC.region <| WL.alloc (zs := [vi 0, vi 0]) rfl rfl t_zero_87 rfl S12.sub (fun w13 b14 hb15 s16 ob17 => ?_)
 have ne18 : b7 ≠ b14 := ob10.ne_new hb15
 have g19 : w0.heap.size ≤ b14 := by rw [hb15]; exact S12.size
 have S20 := S12.trans0 s16
 refine WL.nil <| WQ.seqN <| WC.seq <| WC.region ?_
 have ob21 := (ob10.step0 s16)
 refine Wv rfl (ov_loadN (cs := [vi x1.op, vi x1.kind, vi x1.n, .string x1.s, .string x1.f, v4]) rfl t_agg_47 t_size_47 (OB.cells ob21 0 rfl)) ?_
 obtain ⟨r22, hr23, HF⟩ := bind_some HF
 refine Wc rfl (oc_func (vs := [pt b14 0, .agg #[vi x1.op, vi x1.kind, vi x1.n, .string x1.s, .string x1.f, v4], vi 1]) rfl t_ent_80) (ok_ast_Counter_Expr _ hr23 S20.sub (rp_Ex.2 ⟨_, rfl, (rs5.mono ((s9.le).trans s16.le))⟩) ob17) ?_
 rintro _ w25 ⟨h26, s27, rfl, ob28⟩
 have S29 := S20.trans s27 (in_cons (.inr g19) in_nil)
 refine Wa rfl rfl <| WL.nil <| WQ.seqN <| WC.ret <| WQ.ret1 rfl rfl ?_
 obtain rfl := Option.some.inj HF
 exact ⟨_, rfl, h26, S29, rfl⟩
theorem ok_ast_IsExpr (k : Nat) : C_ast_IsExpr (F_ast_IsExpr k) := s_ast_IsExpr k

def C_syntax_CheckExpr (φ : Ex → Option Int) : Prop := ∀ ⦃x1 : Ex⦄ ⦃r : Int⦄, φ x1 = some r → ∀ ⦃w0 : World⦄ ⦃h0 : Hp⦄ ⦃cs2 : List Value⦄, Sub h0 w0 → Rp.R h0 x1 cs2 →
  Calls Tryz.prog 27 #[.agg cs2.toArray] w0 fun e w1 => ∃ v, e = .returned v ∧ ∃ h1, Stp [] w0 h0 w1 h1 ∧ v = .int .i64 r
theorem s_syntax_CheckExpr (k : Nat) : C_syntax_CheckExpr (F_syntax_CheckExpr k) := by
 intro x1 r HF w0 h0 cs2 hs0 r3
 have S0 : Stp [] w0 h0 w0 h0 := Stp.refl hs0 _
 refine enter (n := 6) Tryz.func27 rfl Tryz.ntmps27 rfl [(0, .agg cs2.toArray)] rfl <| WC.seq <| WC.region ?_
 obtain ⟨v4, rfl, rs5⟩ := rp_Ex.1 r3
 refine WL.box (cs := [vi x1.op, vi x1.kind, vi x1.n, .string x1.s, .string x1.f, v4]) rfl rfl rfl rfl S0.sub (fun w6 b7 hb8 s9 ob10 => ?_)
 have g11 : w0.heap.size ≤ b7 := by rw [hb8]; exact S0.size
 have S12 := S0.trans0 s9
 refine Wa rfl rfl <| WL.nil <| WQ.seqN <| WC.join (fun E w22 => ∃ (h21 : Hp), syntax_CheckExpr_j1 k  = some r ∧ E = [] ∧ Stp [] w0 h0 w22 h21 ∧ Hle h0 h21) ?_ ?_
 ·rintro E w22 ⟨h21, HF, rfl, S24, le23⟩
  refine WC.seq <| WC.region <| Wa rfl rfl <| WL.nil <| WQ.seqN <| WC.ret <| WQ.ret1 rfl rfl ?_
  obtain rfl := Option.some.inj HF
  exact ⟨_, rfl, h21, S24, rfl⟩
 intro J25
 refine WC.seq <| WC.region <| Wv rfl (ov_loadN (cs := [vi x1.op, vi x1.kind, vi x1.n, .string x1.s, .string x1.f, v4]) rfl t_agg_47 t_size_47 (OB.cells ob10 0 rfl)) ?_
 obtain ⟨r13, hr14, HF⟩ := bind_some HF
 refine Wc rfl (oc_func (vs := [.agg #[vi x1.op, vi x1.kind, vi x1.n, .string x1.s, .string x1.f, v4]]) rfl t_ent_47) (ok_ast_IsExpr _ hr14 S12.sub (rp_Ex.2 ⟨_, rfl, (rs5.mono (s9.le))⟩)) ?_
 rintro _ w16 ⟨h17, s18, rfl⟩
 have S19 := S12.trans0 s18
 refine Wv rfl (ov_not rfl) <| WL.nil <| WQ.seqN <| WC.cF HF rfl (fun HF => ?_) (fun HF => ?_)
 ·refine WC.seq <| WC.region <| Wa rfl rfl <| WL.nil <| WQ.seqN <| WC.ret <| WQ.thenRet <| WQ.ret1 rfl rfl ?_
  obtain rfl := Option.some.inj HF
  exact ⟨_, rfl, h17, S19, rfl⟩
 refine WC.skip <| WC.to [] _ rfl ?_
 exact J25 ⟨h17, HF, rfl, S19, s18.le⟩
theorem ok_syntax_CheckExpr (k : Nat) : C_syntax_CheckExpr (F_syntax_CheckExpr k) := s_syntax_CheckExpr k

def C_ast_IsLabel (φ : Int → Option Bool) : Prop := ∀ ⦃x1 : Int⦄ ⦃r : Bool⦄, φ x1 = some r → ∀ ⦃w0 : World⦄ ⦃h0 : Hp⦄, Sub h0 w0 →
  Calls Tryz.prog 131 #[.int .i64 x1] w0 fun e w1 => ∃ v, e = .returned v ∧ ∃ h1, Stp [] w0 h0 w1 h1 ∧ v = .bool r
theorem s_ast_IsLabel (k : Nat) : C_ast_IsLabel (F_ast_IsLabel k) := by
 intro x1 r HF w0 h0  hs0 
 have S0 : Stp [] w0 h0 w0 h0 := Stp.refl hs0 _
 refine enter (n := 5) Tryz.func131 rfl Tryz.ntmps131 rfl [(0, vi x1)] rfl <| WC.seq <| WC.region <| Wa rfl rfl <| WL.nil <| WQ.seqN <| WC.seq <| WC.region <| Wm rfl rfl ?_
 obtain ⟨r2, hr3, HF⟩ := bind_some HF
 refine Wc rfl (oc_func (vs := [vi x1, vi (-2147483647), vi 2147483647]) rfl t_ent_130) (ok_ast_within _ hr3 S0.sub) ?_
 rintro _ w5 ⟨h6, s7, rfl⟩
 have S8 := S0.trans0 s7
 refine Wa rfl rfl <| WL.nil <| WQ.seqN <| WC.ret <| WQ.ret1 rfl rfl ?_
 obtain rfl := Option.some.inj HF
 exact ⟨_, rfl, h6, S8, rfl⟩
theorem ok_ast_IsLabel (k : Nat) : C_ast_IsLabel (F_ast_IsLabel k) := s_ast_IsLabel k

def C_ast_AreNames_1 (φ : ByteArray → Option Bool) : Prop := ∀ ⦃x1 : ByteArray⦄ ⦃r : Bool⦄, φ x1 = some r → ∀ ⦃w0 : World⦄ ⦃h0 : Hp⦄, Sub h0 w0 →
  Calls Tryz.prog 170 #[.string x1] w0 fun e w1 => ∃ v, e = .returned v ∧ ∃ h1, Stp [] w0 h0 w1 h1 ∧ v = .bool r
theorem s_ast_AreNames_1 (k : Nat) : C_ast_AreNames_1 (F_ast_AreNames_1 k) := by
 intro x1 r HF w0 h0  hs0 
 have S0 : Stp [] w0 h0 w0 h0 := Stp.refl hs0 _
 refine enter (n := 6) Tryz.func170 rfl Tryz.ntmps170 rfl [(0, .string x1)] rfl <| WC.seq <| WC.region <| Wa rfl rfl <| WL.nil <| WQ.seqN <| WC.seq <| WC.region <| Wm rfl rfl ?_
 obtain ⟨r2, hr3, HF⟩ := bind_some HF
 refine Wc rfl (oc_func (vs := [.string x1]) rfl t_ent_89) (ok_lexis_IsName _ hr3 S0.sub) ?_
 rintro _ w5 ⟨h6, s7, rfl⟩
 have S8 := S0.trans0 s7
 refine Wv rfl (ov_not rfl) <| Wa rfl rfl <| WL.nil <| WQ.seqN <| WC.ret <| WQ.ret1 rfl rfl ?_
 obtain rfl := Option.some.inj HF
 exact ⟨_, rfl, h6, S8, rfl⟩
theorem ok_ast_AreNames_1 (k : Nat) : C_ast_AreNames_1 (F_ast_AreNames_1 k) := s_ast_AreNames_1 k

def C_slices_IndexFunc_string_string (φ : (List ByteArray) → Option Int) : Prop := ∀ ⦃xs1 : List ByteArray⦄ ⦃r : Int⦄, φ xs1 = some r → ∀ ⦃w0 : World⦄ ⦃h0 : Hp⦄ ⦃v2 : Value⦄, Sub h0 w0 → RS h0 v2 xs1 →
  Calls Tryz.prog 189 #[v2, .func (.func 170) #[] #[]] w0 fun e w1 => ∃ v, e = .returned v ∧ ∃ h1, Stp [] w0 h0 w1 h1 ∧ v = .int .i64 r
theorem s_slices_IndexFunc_string_string (k : Nat) (IH : ∀ j, j ≤ k → C_slices_IndexFunc_string_string (tie_slices_IndexFunc_string_string j).slices_IndexFunc_string_string) : C_slices_IndexFunc_string_string (m_slices_IndexFunc_string_string k (tie_slices_IndexFunc_string_string k)) := by
 intro xs1 r HF w0 h0 v2 hs0 rs3
 have S0 : Stp [] w0 h0 w0 h0 := Stp.refl hs0 _
 refine enter (n := 19) Tryz.func189 rfl Tryz.ntmps189 rfl [(0, v2), (1, .func (.func 170) #[] #[])] rfl <| WC.seq <| WC.region <| Wa rfl rfl <| WL.nil <| WQ.seqN <| WC.seq <| WC.seq <| WC.region <| Wm rfl rfl ?_
 obtain ⟨A4, c5, rfl, rs6⟩ := RS.form rs3
 refine Wv rfl (ov_lenL rfl t_slice_53) <| Wm rfl rfl <| WL.nil <| WQ.seqN <| WC.block <| WC.loop <| WP.to [0, 1, 7, 8] [(0, .slice A4 (xs1).length c5), (1, .func (.func 170) #[] #[]), (7, vi (xs1.length : Int)), (8, vi 0)] rfl <| WP_rule (K := k) (fun j E w8 => ∃ (h7 : Hp) (x11 : Int), (tie_slices_IndexFunc_string_string j).slices_IndexFunc_string_string_l1 xs1 x11 = some r ∧ E = [(0, .slice A4 (xs1).length c5), (1, .func (.func 170) #[] #[]), (7, vi (xs1.length : Int)), (8, vi x11)] ∧ Stp [] w0 h0 w8 h7 ∧ Hle h0 h7) ?_ ?_ (j := k) (Nat.le_refl _) ?_
 ·rintro E w8 ⟨_, _, HF, _⟩; cases HF
 ·rintro j12 hj14 IHL13 E w8 ⟨h7, x11, HF, rfl, S10, le9⟩
  refine WC.seq <| WC.region <| Wv rfl (ov_lss rfl rfl) <| WL.nil <| WQ.seqN <| WC.join (fun E w17 => ∃ (h16 : Hp), slices_IndexFunc_string_string_j2 j12 (tie_slices_IndexFunc_string_string j12) xs1 x11 = some r ∧ E = [(0, .slice A4 (xs1).length c5), (1, .func (.func 170) #[] #[]), (7, vi (xs1.length : Int)), (8, vi x11)] ∧ Stp [] w0 h0 w17 h16 ∧ Hle h7 h16) ?_ ?_
  ·rintro E w17 ⟨h16, HF, rfl, S19, le18⟩
   refine WC.seq <| WC.block <| WC.seq <| WC.region <| Wm rfl rfl <| Wa rfl rfl <| WL.nil <| WQ.seqN <| WC.seq <| WC.region <| Wm rfl rfl <| Wm rfl rfl <| Wm rfl rfl ?_
   obtain ⟨e20, he21, HF⟩ := bind_some HF
   obtain ⟨b22, o23, rfl, h25, h26, ra24⟩ := RS.atO (rs6.mono ((le9).trans le18)) he21
   obtain ⟨cs27, r28, hc29⟩ := ra24
   obtain rfl := (show cs27 = _ from r28)
   refine Wv rfl (ov_indexAddr rfl rfl t_slice_53 t_size_9 h25 h26) <| Wv rfl (ov_load1 rfl t_agg_9 (S19.sub.at_ _ _ _ (hc29 0 _ rfl))) ?_
   obtain ⟨r30, hr31, HF⟩ := bind_some HF
   refine Wc rfl (oc_val (vs := [.string e20]) (caps := []) rfl rfl t_ent_170) (ok_ast_AreNames_1 _ hr31 S19.sub) ?_
   rintro _ w33 ⟨h34, s35, rfl⟩
   have S36 := S19.trans0 s35
   refine WL.nil <| WQ.seqN <| WC.cF HF rfl (fun HF => ?_) (fun HF => ?_)
   ·refine WC.seq <| WC.region <| Wm rfl rfl <| Wa rfl rfl <| WL.nil <| WQ.seqN <| WC.ret <| WQ.blockRet <| WQ.thenRet <| WQ.thenRet <| WQ.blockRet <| WQ.thenRet <| WQ.ret1 rfl rfl ?_
    obtain rfl := Option.some.inj HF
    exact ⟨_, rfl, h34, S36, rfl⟩
   refine WC.skip <| WQ.blockN <| WQ.seqN <| WC.region <| Wv rfl (ov_add rfl rfl) <| Wm rfl rfl <| WL.nil <| WQ.loopN <| WP.to [0, 1, 7, 8] [(0, sl b22 o23 (xs1).length c5), (1, .func (.func 170) #[] #[]), (7, vi (xs1.length : Int)), (8, vi (IntKind.i64.wrap (x11 + 1)))] rfl ?_
   exact IHL13 j12 (Nat.le_refl _) _ _ ⟨h34, IntKind.i64.wrap (x11 + 1), HF, rfl, S36, (le9).trans ((le18).trans s35.le)⟩
  intro J38
  refine WC.cF HF rfl (fun HF => ?_) (fun HF => ?_)
  ·refine WC.skip <| WC.to [0, 1, 7, 8] _ rfl ?_
   exact J38 ⟨h7, HF, rfl, S10, Hle.refl _⟩
  refine WC.exit <| WQ.thenExit <| WQ.thenExit <| WQ.blockHit <| WQ.seqN <| WC.seq <| WC.region <| Wa rfl rfl <| WL.nil <| WQ.seqN <| WC.ret <| WQ.ret1 rfl rfl ?_
  obtain rfl := Option.some.inj HF
  exact ⟨_, rfl, h7, S10, rfl⟩
 exact ⟨h0, 0, HF, rfl, S0, Hle.refl _⟩
theorem all_slices_IndexFunc_string_string : ∀ k j, j ≤ k → C_slices_IndexFunc_string_string (tie_slices_IndexFunc_string_string j).slices_IndexFunc_string_string := by
  intro k
  induction k with
  | zero =>
    intro j hj
    obtain rfl : j = 0 := by omega
    exact (fun _ _ => by intro h; cases h)
  | succ k ih =>
    intro j hj
    by_cases h : j ≤ k
    · exact ih j h
    · obtain rfl : j = k + 1 := by omega
      exact s_slices_IndexFunc_string_string k ih
theorem ok_slices_IndexFunc_string_string (k : Nat) : C_slices_IndexFunc_string_string (F_slices_IndexFunc_string_string k) := (all_slices_IndexFunc_string_string k k (Nat.le_refl _))

def C_slices_ContainsFunc_string_string (φ : (List ByteArray) → Option Bool) : Prop := ∀ ⦃xs1 : List ByteArray⦄ ⦃r : Bool⦄, φ xs1 = some r → ∀ ⦃w0 : World⦄ ⦃h0 : Hp⦄ ⦃v2 : Value⦄, Sub h0 w0 → RS h0 v2 xs1 →
  Calls Tryz.prog 169 #[v2, .func (.func 170) #[] #[]] w0 fun e w1 => ∃ v, e = .returned v ∧ ∃ h1, Stp [] w0 h0 w1 h1 ∧ v = .bool r
theorem s_slices_ContainsFunc_string_string (k : Nat) : C_slices_ContainsFunc_string_string (F_slices_ContainsFunc_string_string k) := by
 intro xs1 r HF w0 h0 v2 hs0 rs3
 have S0 : Stp [] w0 h0 w0 h0 := Stp.refl hs0 _
 refine enter (n := 9) Tryz.func169 rfl Tryz.ntmps169 rfl [(0, v2), (1, .func (.func 170) #[] #[])] rfl <| WC.seq <| WC.region <| Wa rfl rfl <| WL.nil <| WQ.seqN <| WC.seq <| WC.region <| Wm rfl rfl <| Wm rfl rfl ?_
 obtain ⟨r4, hr5, HF⟩ := bind_some HF
 refine Wc rfl (oc_func (vs := [v2, .func (.func 170) #[] #[]]) rfl t_ent_189) (ok_slices_IndexFunc_string_string _ hr5 S0.sub rs3) ?_
 rintro _ w7 ⟨h8, s9, rfl⟩
 have S10 := S0.trans0 s9
 refine Wv rfl (ov_geq rfl rfl) <| Wa rfl rfl <| WL.nil <| WQ.seqN <| WC.ret <| WQ.ret1 rfl rfl ?_
 obtain rfl := Option.some.inj HF
 exact ⟨_, rfl, h8, S10, rfl⟩
theorem ok_slices_ContainsFunc_string_string (k : Nat) : C_slices_ContainsFunc_string_string (F_slices_ContainsFunc_string_string k) := s_slices_ContainsFunc_string_string k

def C_ast_AreNames (φ : (List ByteArray) → Option Bool) : Prop := ∀ ⦃xs1 : List ByteArray⦄ ⦃r : Bool⦄, φ xs1 = some r → ∀ ⦃w0 : World⦄ ⦃h0 : Hp⦄ ⦃v2 : Value⦄, Sub h0 w0 → RS h0 v2 xs1 →
  Calls Tryz.prog 132 #[v2] w0 fun e w1 => ∃ v, e = .returned v ∧ ∃ h1, Stp [] w0 h0 w1 h1 ∧ v = .bool r
theorem s_ast_AreNames (k : Nat) : C_ast_AreNames (F_ast_AreNames k) := by
 intro xs1 r HF w0 h0 v2 hs0 rs3
 have S0 : Stp [] w0 h0 w0 h0 := Stp.refl hs0 _
 refine enter (n := 6) Tryz.func132 rfl Tryz.ntmps132 rfl [(0, v2)] rfl <| WC.seq <| WC.region <| Wa rfl rfl <| WL.nil <| WQ.seqN <| WC.seq <| WC.region <| Wm rfl rfl ?_
 obtain ⟨r4, hr5, HF⟩ := bind_some HF
 refine Wc rfl (oc_func (vs := [v2, .func (.func 170) #[] #[]]) rfl t_ent_169) (ok_slices_ContainsFunc_string_string _ hr5 S0.sub rs3) ?_
 rintro _ w7 ⟨h8, s9, rfl⟩
 have S10 := S0.trans0 s9
 refine Wv rfl (ov_not rfl) <| Wa rfl rfl <| WL.nil <| WQ.seqN <| WC.ret <| WQ.ret1 rfl rfl ?_
 obtain rfl := Option.some.inj HF
 exact ⟨_, rfl, h8, S10, rfl⟩
theorem ok_ast_AreNames (k : Nat) : C_ast_AreNames (F_ast_AreNames k) := s_ast_AreNames k

def C_ast_Counter_arm_1 (φ : Int → Option Bool) : Prop := ∀ ⦃x1 : Int⦄ ⦃r : Bool⦄, φ x1 = some r → ∀ ⦃w0 : World⦄ ⦃h0 : Hp⦄, Sub h0 w0 →
  Calls Tryz.prog 172 #[.int .i64 x1] w0 fun e w1 => ∃ v, e = .returned v ∧ ∃ h1, Stp [] w0 h0 w1 h1 ∧ v = .bool r
theorem s_ast_Counter_arm_1 (k : Nat) : C_ast_Counter_arm_1 (F_ast_Counter_arm_1 k) := by
 intro x1 r HF w0 h0  hs0 
 have S0 : Stp [] w0 h0 w0 h0 := Stp.refl hs0 _
 refine enter (n := 6) Tryz.func172 rfl Tryz.ntmps172 rfl [(0, vi x1)] rfl <| WC.seq <| WC.region <| Wa rfl rfl <| WL.nil <| WQ.seqN <| WC.seq <| WC.region <| Wm rfl rfl ?_
 obtain ⟨r2, hr3, HF⟩ := bind_some HF
 refine Wc rfl (oc_func (vs := [vi x1]) rfl t_ent_131) (ok_ast_IsLabel _ hr3 S0.sub) ?_
 rintro _ w5 ⟨h6, s7, rfl⟩
 have S8 := S0.trans0 s7
 refine Wv rfl (ov_not rfl) <| Wa rfl rfl <| WL.nil <| WQ.seqN <| WC.ret <| WQ.ret1 rfl rfl ?_
 obtain rfl := Option.some.inj HF
 exact ⟨_, rfl, h6, S8, rfl⟩
theorem ok_ast_Counter_arm_1 (k : Nat) : C_ast_Counter_arm_1 (F_ast_Counter_arm_1 k) := s_ast_Counter_arm_1 k

def C_slices_IndexFunc_int_int (φ : (List Int) → Option Int) : Prop := ∀ ⦃xs1 : List Int⦄ ⦃r : Int⦄, φ xs1 = some r → ∀ ⦃w0 : World⦄ ⦃h0 : Hp⦄ ⦃v2 : Value⦄, Sub h0 w0 → RS h0 v2 xs1 →
  Calls Tryz.prog 190 #[v2, .func (.func 172) #[] #[]] w0 fun e w1 => ∃ v, e = .returned v ∧ ∃ h1, Stp [] w0 h0 w1 h1 ∧ v = .int .i64 r
theorem s_slices_IndexFunc_int_int (k : Nat) (IH : ∀ j, j ≤ k → C_slices_IndexFunc_int_int (tie_slices_IndexFunc_int_int j).slices_IndexFunc_int_int) : C_slices_IndexFunc_int_int (m_slices_IndexFunc_int_int k (tie_slices_IndexFunc_int_int k)) := by
 intro xs1 r HF w0 h0 v2 hs0 rs3
 have S0 : Stp [] w0 h0 w0 h0 := Stp.refl hs0 _
 refine enter (n := 19) Tryz.func190 rfl Tryz.ntmps190 rfl [(0, v2), (1, .func (.func 172) #[] #[])] rfl <| WC.seq <| WC.region <| Wa rfl rfl <| WL.nil <| WQ.seqN <| WC.seq <| WC.seq <| WC.region <| Wm rfl rfl ?_
 obtain ⟨A4, c5, rfl, rs6⟩ := RS.form rs3
 refine Wv rfl (ov_lenL rfl t_slice_75) <| Wm rfl rfl <| WL.nil <| WQ.seqN <| WC.block <| WC.loop <| WP.to [0, 1, 7, 8] [(0, .slice A4 (xs1).length c5), (1, .func (.func 172) #[] #[]), (7, vi (xs1.length : Int)), (8, vi 0)] rfl <| WP_rule (K := k) (fun j E w8 => ∃ (h7 : Hp) (x11 : Int), (tie_slices_IndexFunc_int_int j).slices_IndexFunc_int_int_l1 xs1 x11 = some r ∧ E = [(0, .slice A4 (xs1).length c5), (1, .func (.func 172) #[] #[]), (7, vi (xs1.length : Int)), (8, vi x11)] ∧ Stp [] w0 h0 w8 h7 ∧ Hle h0 h7) ?_ ?_ (j := k) (Nat.le_refl _) ?_
 ·rintro E w8 ⟨_, _, HF, _⟩; cases HF
 ·rintro j12 hj14 IHL13 E w8 ⟨h7, x11, HF, rfl, S10, le9⟩
  refine WC.seq <| WC.region <| Wv rfl (ov_lss rfl rfl) <| WL.nil <| WQ.seqN <| WC.join (fun E w17 => ∃ (h16 : Hp), slices_IndexFunc_int_int_j2 j12 (tie_slices_IndexFunc_int_int j12) xs1 x11 = some r ∧ E = [(0, .slice A4 (xs1).length c5), (1, .func (.func 172) #[] #[]), (7, vi (xs1.length : Int)), (8, vi x11)] ∧ Stp [] w0 h0 w17 h16 ∧ Hle h7 h16) ?_ ?_
  ·rintro E w17 ⟨h16, HF, rfl, S19, le18⟩
   refine WC.seq <| WC.block <| WC.seq <| WC.region <| Wm rfl rfl <| Wa rfl rfl <| WL.nil <| WQ.seqN <| WC.seq <| WC.region <| Wm rfl rfl <| Wm rfl rfl <| Wm rfl rfl ?_
   obtain ⟨e20, he21, HF⟩ := bind_some HF
   obtain ⟨b22, o23, rfl, h25, h26, ra24⟩ := RS.atO (rs6.mono ((le9).trans le18)) he21
   obtain ⟨cs27, r28, hc29⟩ := ra24
   obtain rfl := (show cs27 = _ from r28)
   refine Wv rfl (ov_indexAddr rfl rfl t_slice_75 t_size_3 h25 h26) <| Wv rfl (ov_load1 rfl t_agg_3 (S19.sub.at_ _ _ _ (hc29 0 _ rfl))) ?_
   obtain ⟨r30, hr31, HF⟩ := bind_some HF
   refine Wc rfl (oc_val (vs := [vi e20]) (caps := []) rfl rfl t_ent_172) (ok_ast_Counter_arm_1 _ hr31 S19.sub) ?_
   rintro _ w33 ⟨h34, s35, rfl⟩
   have S36 := S19.trans0 s35
   refine WL.nil <| WQ.seqN <| WC.cF HF rfl (fun HF => ?_) (fun HF => ?_)
   ·refine WC.seq <| WC.region <| Wm rfl rfl <| Wa rfl rfl <| WL.nil <| WQ.seqN <| WC.ret <| WQ.blockRet <| WQ.thenRet <| WQ.thenRet <| WQ.blockRet <| WQ.thenRet <| WQ.ret1 rfl rfl ?_
    obtain rfl := Option.some.inj HF
    exact ⟨_, rfl, h34, S36, rfl⟩
   refine WC.skip <| WQ.blockN <| WQ.seqN <| WC.region <| Wv rfl (ov_add rfl rfl) <| Wm rfl rfl <| WL.nil <| WQ.loopN <| WP.to [0, 1, 7, 8] [(0, sl b22 o23 (xs1).length c5), (1, .func (.func 172) #[] #[]), (7, vi (xs1.length : Int)), (8, vi (IntKind.i64.wrap (x11 + 1)))] rfl ?_
   exact IHL13 j12 (Nat.le_refl _) _ _ ⟨h34, IntKind.i64.wrap (x11 + 1), HF, rfl, S36, (le9).trans ((le18).trans s35.le)⟩
  intro J38
  refine WC.cF HF rfl (fun HF => ?_) (fun HF => ?_)
  ·refine WC.skip <| WC.to [0, 1, 7, 8] _ rfl ?_
   exact J38 ⟨h7, HF, rfl, S10, Hle.refl _⟩
  refine WC.exit <| WQ.thenExit <| WQ.thenExit <| WQ.blockHit <| WQ.seqN <| WC.seq <| WC.region <| Wa rfl rfl <| WL.nil <| WQ.seqN <| WC.ret <| WQ.ret1 rfl rfl ?_
  obtain rfl := Option.some.inj HF
  exact ⟨_, rfl, h7, S10, rfl⟩
 exact ⟨h0, 0, HF, rfl, S0, Hle.refl _⟩
theorem all_slices_IndexFunc_int_int : ∀ k j, j ≤ k → C_slices_IndexFunc_int_int (tie_slices_IndexFunc_int_int j).slices_IndexFunc_int_int := by
  intro k
  induction k with
  | zero =>
    intro j hj
    obtain rfl : j = 0 := by omega
    exact (fun _ _ => by intro h; cases h)
  | succ k ih =>
    intro j hj
    by_cases h : j ≤ k
    · exact ih j h
    · obtain rfl : j = k + 1 := by omega
      exact s_slices_IndexFunc_int_int k ih
theorem ok_slices_IndexFunc_int_int (k : Nat) : C_slices_IndexFunc_int_int (F_slices_IndexFunc_int_int k) := (all_slices_IndexFunc_int_int k k (Nat.le_refl _))

def C_slices_ContainsFunc_int_int (φ : (List Int) → Option Bool) : Prop := ∀ ⦃xs1 : List Int⦄ ⦃r : Bool⦄, φ xs1 = some r → ∀ ⦃w0 : World⦄ ⦃h0 : Hp⦄ ⦃v2 : Value⦄, Sub h0 w0 → RS h0 v2 xs1 →
  Calls Tryz.prog 171 #[v2, .func (.func 172) #[] #[]] w0 fun e w1 => ∃ v, e = .returned v ∧ ∃ h1, Stp [] w0 h0 w1 h1 ∧ v = .bool r
theorem s_slices_ContainsFunc_int_int (k : Nat) : C_slices_ContainsFunc_int_int (F_slices_ContainsFunc_int_int k) := by
 intro xs1 r HF w0 h0 v2 hs0 rs3
 have S0 : Stp [] w0 h0 w0 h0 := Stp.refl hs0 _
 refine enter (n := 9) Tryz.func171 rfl Tryz.ntmps171 rfl [(0, v2), (1, .func (.func 172) #[] #[])] rfl <| WC.seq <| WC.region <| Wa rfl rfl <| WL.nil <| WQ.seqN <| WC.seq <| WC.region <| Wm rfl rfl <| Wm rfl rfl ?_
 obtain ⟨r4, hr5, HF⟩ := bind_some HF
 refine Wc rfl (oc_func (vs := [v2, .func (.func 172) #[] #[]]) rfl t_ent_190) (ok_slices_IndexFunc_int_int _ hr5 S0.sub rs3) ?_
 rintro _ w7 ⟨h8, s9, rfl⟩
 have S10 := S0.trans0 s9
 refine Wv rfl (ov_geq rfl rfl) <| Wa rfl rfl <| WL.nil <| WQ.seqN <| WC.ret <| WQ.ret1 rfl rfl ?_
 obtain rfl := Option.some.inj HF
 exact ⟨_, rfl, h8, S10, rfl⟩
theorem ok_slices_ContainsFunc_int_int (k : Nat) : C_slices_ContainsFunc_int_int (F_slices_ContainsFunc_int_int k) := s_slices_ContainsFunc_int_int k

def C_ast_Counter_arm (φ : Int → Int → Ar → Int → Int → Option (Bool × Int × Int)) : Prop := ∀ ⦃x3 : Int⦄ ⦃x4 : Int⦄ ⦃x6 : Ar⦄ ⦃x9 : Int⦄ ⦃x10 : Int⦄ ⦃r : Bool × Int × Int⦄, φ x3 x4 x6 x9 x10 = some r → ∀ ⦃w0 : World⦄ ⦃h0 : Hp⦄ ⦃b1 : Nat⦄ ⦃T2 : Nat⦄ ⦃cs7 : List Value⦄, Sub h0 w0 → Rp.R h0 x6 cs7 → OB w0 h0 b1 T2 [.int .i64 x3, .int .i64 x4] →
  Calls Tryz.prog 133 #[.pointer (some ⟨b1, 0, none⟩), .agg cs7.toArray, .int .i64 x9, .int .i64 x10] w0 fun e w1 => ∃ v, e = .returned v ∧ ∃ h1, Stp [b1] w0 h0 w1 h1 ∧ v = .bool r.1 ∧ (OB w1 h1 b1 T2 [.int .i64 r.2.1, .int .i64 r.2.2])
def C_ast_Counter_Text (φ : Int → Int → (List St) → Int → Option (Bool × Int × Int)) : Prop := ∀ ⦃x3 : Int⦄ ⦃x4 : Int⦄ ⦃xs6 : List St⦄ ⦃x9 : Int⦄ ⦃r : Bool × Int × Int⦄, φ x3 x4 xs6 x9 = some r → ∀ ⦃w0 : World⦄ ⦃h0 : Hp⦄ ⦃b1 : Nat⦄ ⦃T2 : Nat⦄ ⦃v7 : Value⦄, Sub h0 w0 → RS h0 v7 xs6 → OB w0 h0 b1 T2 [.int .i64 x3, .int .i64 x4] →
  Calls Tryz.prog 43 #[.pointer (some ⟨b1, 0, none⟩), v7, .int .i64 x9] w0 fun e w1 => ∃ v, e = .returned v ∧ ∃ h1, Stp [b1] w0 h0 w1 h1 ∧ v = .bool r.1 ∧ (OB w1 h1 b1 T2 [.int .i64 r.2.1, .int .i64 r.2.2])
def C_ast_Counter_stmt (φ : Int → Int → St → Int → Option (Bool × Int × Int)) : Prop := ∀ ⦃x3 : Int⦄ ⦃x4 : Int⦄ ⦃x6 : St⦄ ⦃x9 : Int⦄ ⦃r : Bool × Int × Int⦄, φ x3 x4 x6 x9 = some r → ∀ ⦃w0 : World⦄ ⦃h0 : Hp⦄ ⦃b1 : Nat⦄ ⦃T2 : Nat⦄ ⦃cs7 : List Value⦄, Sub h0 w0 → Rp.R h0 x6 cs7 → OB w0 h0 b1 T2 [.int .i64 x3, .int .i64 x4] →
  Calls Tryz.prog 75 #[.pointer (some ⟨b1, 0, none⟩), .agg cs7.toArray, .int .i64 x9] w0 fun e w1 => ∃ v, e = .returned v ∧ ∃ h1, Stp [b1] w0 h0 w1 h1 ∧ v = .bool r.1 ∧ (OB w1 h1 b1 T2 [.int .i64 r.2.1, .int .i64 r.2.2])
theorem s_ast_Counter_arm (k : Nat) (IH : ∀ j, j ≤ k → C_ast_Counter_arm (tie_ast_Counter_arm j).ast_Counter_arm ∧ C_ast_Counter_Text (tie_ast_Counter_arm j).ast_Counter_Text ∧ C_ast_Counter_stmt (tie_ast_Counter_arm j).ast_Counter_stmt) : C_ast_Counter_arm (m_ast_Counter_arm k (tie_ast_Counter_arm k)) := by
 intro x3 x4 x6 x9 x10 r HF w0 h0 b1 T2 cs7 hs0 r8 ob5
 have S0 : Stp [b1] w0 h0 w0 h0 := Stp.refl hs0 _
 have lt11 : b1 < w0.heap.size := OB.lt ob5
 refine enter (n := 62) Tryz.func133 rfl Tryz.ntmps133 rfl [(0, pt b1 0), (1, .agg cs7.toArray), (2, vi x9), (3, vi x10)] rfl <| WC.seq <| WC.region ?_
 obtain ⟨v12, v14, v16, rfl, rs13, rs15, rs17⟩ := rp_Ar.1 r8
 refine WL.box (cs := [v12, v14, v16]) rfl rfl rfl rfl S0.sub (fun w18 b19 hb20 s21 ob22 => ?_)
 have ne23 : b1 ≠ b19 := ob5.ne_new hb20
 have g24 : w0.heap.size ≤ b19 := by rw [hb20]; exact S0.size
 have S25 := S0.trans0 s21
 refine Wa rfl rfl <| WL.nil <| WQ.seqN <| WC.join (fun E w59 => ∃ (h58 : Hp) (x62 : Int) (x63 : Int), ast_Counter_arm_j2 k (tie_ast_Counter_arm k) x6 x9 x10 x62 x63 = some r ∧ E = [(0, pt b1 0), (2, vi x9), (3, vi x10), (5, pt b19 0)] ∧ Stp [b1] w0 h0 w59 h58 ∧ Hle h0 h58 ∧ OB w59 h58 b1 T2 [vi x62, vi x63] ∧ OB w59 h58 b19 77 [v12, v14, v16]) ?_ ?_
 ·rintro E w59 ⟨h58, x62, x63, HF, rfl, S61, le60, ob64, ob65⟩
  refine WC.join (fun E w95 => ∃ (h94 : Hp), ast_Counter_arm_j4 k (tie_ast_Counter_arm k) x6 x10 x62 x63 = some r ∧ E = [(0, pt b1 0), (3, vi x10), (5, pt b19 0)] ∧ Stp [b1] w0 h0 w95 h94 ∧ Hle h58 h94 ∧ OB w95 h94 b1 T2 [vi x62, vi x63] ∧ OB w95 h94 b19 77 [v12, v14, v16]) ?_ ?_
  ·rintro E w95 ⟨h94, HF, rfl, S97, le96, ob98, ob99⟩
   refine WC.seq <| WC.region <| Wm rfl rfl <| Wv rfl (ov_fieldAddr rfl t_field_77_0) <| Wv rfl (ov_load1 rfl t_agg_45 (OB.cell ob99 (j := 0) rfl)) <| Wm rfl rfl <| Wv rfl (ov_add rfl rfl) ?_
   obtain ⟨r100, hr101, HF⟩ := bind_some HF
   refine Wc rfl (oc_func (vs := [pt b1 0, v12, vi (IntKind.i64.wrap (x10 + 1))]) rfl t_ent_134) (ok_ast_Counter_Exprs _ hr101 S97.sub (rs13.mono ((s21.le).trans ((le60).trans le96))) ob98) ?_
   rintro _ w103 ⟨h104, s105, rfl, ob106⟩
   have S107 := S97.trans s105 (in_cons (.inl (by simp)) in_nil)
   refine Wm rfl rfl <| WL.sF 54 HF rfl (fun HF => ?_) (fun HF => ?_)
   ·refine Wm rfl rfl <| Wv rfl (ov_fieldAddr rfl t_field_77_2) ?_
    have ob109 := (ob99.step1 s105 (Ne.symm ne23))
    refine Wv rfl (ov_load1 rfl t_agg_22 (OB.cell ob109 (j := 2) rfl)) <| Wm rfl rfl <| Wv rfl (ov_add rfl rfl) ?_
    obtain ⟨r110, hr111, HF⟩ := bind_some HF
    refine Wc rfl (oc_func (vs := [pt b1 0, v16, vi (IntKind.i64.wrap (x10 + 1))]) rfl t_ent_43) ((IH _ (Nat.le_refl _)).2.1 hr111 S107.sub (rs17.mono ((s21.le).trans ((le60).trans ((le96).trans s105.le)))) ob106) ?_
    rintro _ w113 ⟨h114, s115, rfl, ob116⟩
    have S117 := S107.trans s115 (in_cons (.inl (by simp)) in_nil)
    refine Wv rfl (ov_pickT rfl rfl) <| Wa rfl rfl <| WL.nil <| WQ.seqN <| WC.ret <| WQ.ret1 rfl rfl ?_
    obtain rfl := Option.some.inj HF
    exact ⟨_, rfl, h114, S117, rfl, ob116⟩
   refine Wp rfl <| Wp rfl <| Wp rfl <| Wp rfl <| Wp rfl <| Wp rfl <| Wv rfl (ov_pickF rfl rfl) <| Wa rfl rfl <| WL.nil <| WQ.seqN <| WC.ret <| WQ.ret1 rfl rfl ?_
   obtain rfl := Option.some.inj HF
   exact ⟨_, rfl, h104, S107, rfl, ob106⟩
  intro J118
  refine WC.join (fun E w86 => ∃ (h85 : Hp) (x89 : Bool), ast_Counter_arm_j3 k (tie_ast_Counter_arm k) x6 x10 x62 x63 x89 = some r ∧ E = [(0, pt b1 0), (3, vi x10), (5, pt b19 0), (47, .bool x89)] ∧ Stp [b1] w0 h0 w86 h85 ∧ Hle h58 h85 ∧ OB w86 h85 b1 T2 [vi x62, vi x63] ∧ OB w86 h85 b19 77 [v12, v14, v16]) ?_ ?_
  ·rintro E w86 ⟨h85, x89, HF, rfl, S88, le87, ob90, ob91⟩
   refine WC.cF HF rfl (fun HF => ?_) (fun HF => ?_)
   ·refine WC.seq <| WC.region <| Wa rfl rfl <| WL.nil <| WQ.seqN <| WC.ret <| WQ.thenRet <| WQ.ret1 rfl rfl ?_
    obtain rfl := Option.some.inj HF
    exact ⟨_, rfl, h85, S88, rfl, ob90⟩
   refine WC.skip <| WC.to [0, 3, 5] _ rfl ?_
   exact J118 ⟨h85, HF, rfl, S88, le87, ob90, ob91⟩
  intro J93
  refine WC.region <| Wm rfl rfl <| Wv rfl (ov_eql rfl rfl) <| Wm rfl rfl <| WL.sF 20 HF rfl (fun HF => ?_) (fun HF => ?_)
  ·refine Wv rfl (ov_fieldAddr rfl t_field_77_0) <| Wv rfl (ov_load1 rfl t_agg_45 (OB.cell ob65 (j := 0) rfl)) ?_
   obtain ⟨A67, c68, rfl, rs69⟩ := RS.form (rs13.mono ((s21.le).trans le60))
   refine Wv rfl (ov_lenL rfl t_slice_45) <| Wv rfl (ov_neq rfl rfl) <| Wm rfl rfl <| WL.sF 25 HF rfl (fun HF => ?_) (fun HF => ?_)
   ·refine Wp rfl <| Wp rfl <| Wp rfl <| Wp rfl <| Wv rfl (ov_pickT rfl rfl) <| Wv rfl (ov_pickT rfl rfl) <| Wm rfl rfl <| Wp rfl <| Wp rfl <| Wp rfl <| Wp rfl <| Wp rfl <| Wp rfl <| Wp rfl <| Wp rfl <| Wp rfl <| Wp rfl <| Wp rfl <| Wp rfl <| Wp rfl <| Wp rfl <| Wv rfl (ov_pickT rfl rfl) <| WL.nil <| WC.to [0, 3, 5, 47] _ rfl ?_
    exact J93 ⟨h58, true, HF, rfl, S61, Hle.refl _, ob64, ob65⟩
   refine Wv rfl (ov_fieldAddr rfl t_field_77_1) <| Wv rfl (ov_load1 rfl t_agg_75 (OB.cell ob65 (j := 1) rfl)) ?_
   obtain ⟨A71, c72, rfl, rs73⟩ := RS.form (rs15.mono ((s21.le).trans le60))
   refine Wv rfl (ov_lenL rfl t_slice_75) <| Wv rfl (ov_gtr rfl rfl) <| Wv rfl (ov_pickF rfl rfl) <| Wv rfl (ov_pickT rfl rfl) <| Wm rfl rfl <| WL.sF 32 HF rfl (fun HF => ?_) (fun HF => ?_)
   ·refine Wp rfl <| Wp rfl <| Wp rfl <| Wp rfl <| Wp rfl <| Wp rfl <| Wp rfl <| Wp rfl <| Wp rfl <| Wp rfl <| Wp rfl <| Wp rfl <| Wp rfl <| Wp rfl <| Wv rfl (ov_pickT rfl rfl) <| WL.nil <| WC.to [0, 3, 5, 47] _ rfl ?_
    exact J93 ⟨h58, true, HF, rfl, S61, Hle.refl _, ob64, ob65⟩
   refine Wm rfl rfl <| Wv rfl (ov_eql rfl rfl) <| Wm rfl rfl <| WL.sF 35 HF rfl (fun HF => ?_) (fun HF => ?_)
   ·refine Wv rfl (ov_fieldAddr rfl t_field_77_0) <| Wv rfl (ov_load1 rfl t_agg_45 (OB.cell ob65 (j := 0) rfl)) <| Wv rfl (ov_lenL rfl t_slice_45) <| Wv rfl (ov_gtr rfl rfl) <| Wm rfl rfl <| WL.sF 40 HF rfl (fun HF => ?_) (fun HF => ?_)
    ·refine Wp rfl <| Wp rfl <| Wp rfl <| Wp rfl <| Wv rfl (ov_pickT rfl rfl) <| Wv rfl (ov_pickT rfl rfl) <| Wv rfl (ov_pickF rfl rfl) <| WL.nil <| WC.to [0, 3, 5, 47] _ rfl ?_
     exact J93 ⟨h58, true, HF, rfl, S61, Hle.refl _, ob64, ob65⟩
    refine Wv rfl (ov_fieldAddr rfl t_field_77_1) <| Wv rfl (ov_load1 rfl t_agg_75 (OB.cell ob65 (j := 1) rfl)) <| Wv rfl (ov_lenL rfl t_slice_75) <| Wv rfl (ov_eql rfl rfl) <| Wv rfl (ov_pickF rfl rfl) <| Wv rfl (ov_pickT rfl rfl) <| Wv rfl (ov_pickF rfl rfl) <| WL.nil <| WC.to [0, 3, 5, 47] _ rfl ?_
    exact J93 ⟨h58, ((x6.labels.length : Int) : Int) == 0, HF, rfl, S61, Hle.refl _, ob64, ob65⟩
   refine Wp rfl <| Wp rfl <| Wp rfl <| Wp rfl <| Wp rfl <| Wp rfl <| Wp rfl <| Wp rfl <| Wp rfl <| Wp rfl <| Wv rfl (ov_pickF rfl rfl) <| Wv rfl (ov_pickF rfl rfl) <| WL.nil <| WC.to [0, 3, 5, 47] _ rfl ?_
   exact J93 ⟨h58, false, HF, rfl, S61, Hle.refl _, ob64, ob65⟩
  refine Wp rfl <| Wp rfl <| Wp rfl <| Wp rfl <| Wp rfl <| Wp rfl <| Wp rfl <| Wp rfl <| Wp rfl <| Wp rfl <| Wv rfl (ov_pickF rfl rfl) <| Wm rfl rfl <| Wm rfl rfl <| Wv rfl (ov_eql rfl rfl) <| Wm rfl rfl <| WL.sF 35 HF rfl (fun HF => ?_) (fun HF => ?_)
  ·refine Wv rfl (ov_fieldAddr rfl t_field_77_0) <| Wv rfl (ov_load1 rfl t_agg_45 (OB.cell ob65 (j := 0) rfl)) ?_
   obtain ⟨A78, c79, rfl, rs80⟩ := RS.form (rs13.mono ((s21.le).trans le60))
   refine Wv rfl (ov_lenL rfl t_slice_45) <| Wv rfl (ov_gtr rfl rfl) <| Wm rfl rfl <| WL.sF 40 HF rfl (fun HF => ?_) (fun HF => ?_)
   ·refine Wp rfl <| Wp rfl <| Wp rfl <| Wp rfl <| Wv rfl (ov_pickT rfl rfl) <| Wv rfl (ov_pickT rfl rfl) <| Wv rfl (ov_pickF rfl rfl) <| WL.nil <| WC.to [0, 3, 5, 47] _ rfl ?_
    exact J93 ⟨h58, true, HF, rfl, S61, Hle.refl _, ob64, ob65⟩
   refine Wv rfl (ov_fieldAddr rfl t_field_77_1) <| Wv rfl (ov_load1 rfl t_agg_75 (OB.cell ob65 (j := 1) rfl)) ?_
   obtain ⟨A82, c83, rfl, rs84⟩ := RS.form (rs15.mono ((s21.le).trans le60))
   refine Wv rfl (ov_lenL rfl t_slice_75) <| Wv rfl (ov_eql rfl rfl) <| Wv rfl (ov_pickF rfl rfl) <| Wv rfl (ov_pickT rfl rfl) <| Wv rfl (ov_pickF rfl rfl) <| WL.nil <| WC.to [0, 3, 5, 47] _ rfl ?_
   exact J93 ⟨h58, ((x6.labels.length : Int) : Int) == 0, HF, rfl, S61, Hle.refl _, ob64, ob65⟩
  refine Wp rfl <| Wp rfl <| Wp rfl <| Wp rfl <| Wp rfl <| Wp rfl <| Wp rfl <| Wp rfl <| Wp rfl <| Wp rfl <| Wv rfl (ov_pickF rfl rfl) <| Wv rfl (ov_pickF rfl rfl) <| WL.nil <| WC.to [0, 3, 5, 47] _ rfl ?_
  exact J93 ⟨h58, false, HF, rfl, S61, Hle.refl _, ob64, ob65⟩
 intro J119
 refine WC.join (fun E w45 => ∃ (h44 : Hp) (x48 : Bool) (x49 : Int) (x50 : Int), ast_Counter_arm_j1 k (tie_ast_Counter_arm k) x6 x9 x10 x48 x49 x50 = some r ∧ E = [(0, pt b1 0), (2, vi x9), (3, vi x10), (5, pt b19 0), (17, .bool x48)] ∧ Stp [b1] w0 h0 w45 h44 ∧ Hle h0 h44 ∧ OB w45 h44 b1 T2 [vi x49, vi x50] ∧ OB w45 h44 b19 77 [v12, v14, v16]) ?_ ?_
 ·rintro E w45 ⟨h44, x48, x49, x50, HF, rfl, S47, le46, ob51, ob52⟩
  refine WC.cF HF rfl (fun HF => ?_) (fun HF => ?_)
  ·refine WC.seq <| WC.region <| Wa rfl rfl <| WL.nil <| WQ.seqN <| WC.ret <| WQ.thenRet <| WQ.ret1 rfl rfl ?_
   obtain rfl := Option.some.inj HF
   exact ⟨_, rfl, h44, S47, rfl, ob51⟩
  refine WC.skip <| WC.to [0, 2, 3, 5] _ rfl ?_
  exact J119 ⟨h44, x49, x50, HF, rfl, S47, le46, ob51, ob52⟩
 intro J54
 refine WC.region <| Wm rfl rfl <| Wm rfl rfl ?_
 have ob26 := (ob5.step0 s21)
 obtain ⟨r27, hr28, HF⟩ := bind_some HF
 refine Wc rfl (oc_func (vs := [pt b1 0, vi x10]) rfl t_ent_128) (ok_ast_Counter_Add _ hr28 S25.sub ob26) ?_
 rintro _ w30 ⟨h31, s32, rfl, ob33⟩
 have S34 := S25.trans s32 (in_cons (.inl (by simp)) in_nil)
 refine Wv rfl (ov_not rfl) <| Wm rfl rfl <| WL.sF 13 HF rfl (fun HF => ?_) (fun HF => ?_)
 ·refine Wp rfl <| Wp rfl <| Wp rfl <| Wv rfl (ov_pickT rfl rfl) <| WL.nil ?_
  have ob55 := (ob22.step1 s32 (Ne.symm ne23))
  refine WC.to [0, 2, 3, 5, 17] _ rfl ?_
  exact J54 ⟨h31, true, r27.2.1, r27.2.2, HF, rfl, S34, s32.le, ob33, ob55⟩
 refine Wv rfl (ov_fieldAddr rfl t_field_77_1) ?_
 have ob36 := (ob22.step1 s32 (Ne.symm ne23))
 refine Wv rfl (ov_load1 rfl t_agg_75 (OB.cell ob36 (j := 1) rfl)) ?_
 obtain ⟨r37, hr38, HF⟩ := bind_some HF
 refine Wc rfl (oc_func (vs := [v14, .func (.func 172) #[] #[]]) rfl t_ent_171) (ok_slices_ContainsFunc_int_int _ hr38 S34.sub (rs15.mono ((s21.le).trans s32.le))) ?_
 rintro _ w40 ⟨h41, s42, rfl⟩
 have S43 := S34.trans0 s42
 refine Wv rfl (ov_pickF rfl rfl) <| WL.nil ?_
 have ob56 := (ob33.step0 s42)
 have ob57 := (ob36.step0 s42)
 refine WC.to [0, 2, 3, 5, 17] _ rfl ?_
 exact J54 ⟨h41, r37, r27.2.1, r27.2.2, HF, rfl, S43, (s32.le).trans s42.le, ob56, ob57⟩
theorem s_ast_Counter_Text (k : Nat) (IH : ∀ j, j ≤ k → C_ast_Counter_arm (tie_ast_Counter_arm j).ast_Counter_arm ∧ C_ast_Counter_Text (tie_ast_Counter_arm j).ast_Counter_Text ∧ C_ast_Counter_stmt (tie_ast_Counter_arm j).ast_Counter_stmt) : C_ast_Counter_Text (m_ast_Counter_Text k (tie_ast_Counter_arm k)) := by
 intro x3 x4 xs6 x9 r HF w0 h0 b1 T2 v7 hs0 rs8 ob5
 have S0 : Stp [b1] w0 h0 w0 h0 := Stp.refl hs0 _
 have lt10 : b1 < w0.heap.size := OB.lt ob5
 refine enter (n := 21) Tryz.func43 rfl Tryz.ntmps43 rfl [(0, pt b1 0), (1, v7), (2, vi x9)] rfl <| WC.seq <| WC.region <| Wa rfl rfl <| WL.nil <| WQ.seqN <| WC.seq <| WC.seq <| WC.region <| Wm rfl rfl ?_
 obtain ⟨A11, c12, rfl, rs13⟩ := RS.form rs8
 refine Wv rfl (ov_lenL rfl t_slice_22) <| Wm rfl rfl <| WL.nil <| WQ.seqN <| WC.block <| WC.loop <| WP.to [0, 2, 9, 10, 11] [(0, pt b1 0), (2, vi x9), (9, .slice A11 (xs6).length c12), (10, vi (xs6.length : Int)), (11, vi 0)] rfl <| WP_rule (K := k) (fun j E w15 => ∃ (h14 : Hp) (x18 : Int) (x19 : Int) (x20 : Int), (tie_ast_Counter_arm j).ast_Counter_Text_l1 xs6 x9 x18 x19 x20 = some r ∧ E = [(0, pt b1 0), (2, vi x9), (9, .slice A11 (xs6).length c12), (10, vi (xs6.length : Int)), (11, vi x18)] ∧ Stp [b1] w0 h0 w15 h14 ∧ Hle h0 h14 ∧ OB w15 h14 b1 T2 [vi x19, vi x20]) ?_ ?_ (j := k) (Nat.le_refl _) ?_
 ·rintro E w15 ⟨_, _, _, _, HF, _⟩; cases HF
 ·rintro j22 hj24 IHL23 E w15 ⟨h14, x18, x19, x20, HF, rfl, S17, le16, ob21⟩
  refine WC.seq <| WC.region <| Wv rfl (ov_lss rfl rfl) <| WL.nil <| WQ.seqN <| WC.join (fun E w27 => ∃ (h26 : Hp), ast_Counter_Text_j2 j22 (tie_ast_Counter_arm j22) xs6 x9 x18 x19 x20 = some r ∧ E = [(0, pt b1 0), (2, vi x9), (9, .slice A11 (xs6).length c12), (10, vi (xs6.length : Int)), (11, vi x18)] ∧ Stp [b1] w0 h0 w27 h26 ∧ Hle h14 h26 ∧ OB w27 h26 b1 T2 [vi x19, vi x20]) ?_ ?_
  ·rintro E w27 ⟨h26, HF, rfl, S29, le28, ob30⟩
   refine WC.seq <| WC.block <| WC.seq <| WC.region ?_
   obtain ⟨e31, he32, HF⟩ := bind_some HF
   obtain ⟨b33, o34, rfl, h36, h37, ra35⟩ := RS.atO (rs13.mono ((le16).trans le28)) he32
   obtain ⟨cs38, r39, hc40⟩ := ra35
   refine Wv rfl (ov_indexAddr rfl rfl t_slice_22 t_size_56 h36 h37) <| Wv rfl (ov_loadN (cs := cs38) rfl t_agg_56 (by rw [Rp.len r39]; exact t_size_56) (fun j v hv => S29.sub.at_ _ _ _ (hc40 j v hv))) <| WL.alloc (zs := [vi 0, .string b'110, .slice none 0 0, .slice none 0 0, .slice none 0 0, vi 0, .slice none 0 0, .slice none 0 0, .slice none 0 0, .bool false]) rfl rfl t_zero_56 rfl S29.sub (fun w41 b42 hb43 s44 ob45 => ?_)
   have ne46 : b1 ≠ b42 := ob30.ne_new hb43
   have g47 : w0.heap.size ≤ b42 := by rw [hb43]; exact S29.size
   have S48 := S29.trans0 s44
   obtain ⟨v49, v51, v53, v55, v57, v59, rfl, rs50, rs52, rs54, rs56, rs58, rs60⟩ := rp_St.1 (Rp.mono (s44.le) r39)
   refine WL.store (vs := [vi e31.op, .string e31.name, v49, v51, v53, vi e31.n, v55, v57, v59, .bool e31.els]) rfl rfl rfl rfl t_size_56 (one_cons rfl (one_cons rfl (one_cons (RS.one rs50) (one_cons (RS.one rs52) (one_cons (RS.one rs54) (one_cons rfl (one_cons (RS.one rs56) (one_cons (RS.one rs58) (one_cons (RS.one rs60) (one_cons rfl one_nil)))))))))) ob45 S48.sub (by simp) (ds := [vi e31.op, .string e31.name, v49, v51, v53, vi e31.n, v55, v57, v59, .bool e31.els]) rfl (fun w61 s62 ob63 => ?_)
   have S64 := S48.trans1 s62 (.inr g47)
   refine WL.nil <| WQ.seqN <| WC.seq <| WC.region <| Wm rfl rfl <| Wv rfl (ov_loadN (cs := [vi e31.op, .string e31.name, v49, v51, v53, vi e31.n, v55, v57, v59, .bool e31.els]) rfl t_agg_56 t_size_56 (OB.cells ob63 0 rfl)) <| Wm rfl rfl ?_
   have ob65 := ((ob30.step0 s44).step1 s62 ne46)
   obtain ⟨r66, hr67, HF⟩ := bind_some HF
   refine Wc rfl (oc_func (vs := [pt b1 0, .agg #[vi e31.op, .string e31.name, v49, v51, v53, vi e31.n, v55, v57, v59, .bool e31.els], vi x9]) rfl t_ent_75) ((IH _ (Nat.le_trans (Nat.le_of_succ_le hj24) (Nat.le_refl _))).2.2 hr67 S64.sub (rp_St.2 ⟨_, _, _, _, _, _, rfl, (rs50.mono (s62.le)), (rs52.mono (s62.le)), (rs54.mono (s62.le)), (rs56.mono (s62.le)), (rs58.mono (s62.le)), (rs60.mono (s62.le))⟩) ob65) ?_
   rintro _ w69 ⟨h70, s71, rfl, ob72⟩
   have S73 := S64.trans s71 (in_cons (.inl (by simp)) in_nil)
   refine Wv rfl (ov_not rfl) <| WL.nil <| WQ.seqN <| WC.cF HF rfl (fun HF => ?_) (fun HF => ?_)
   ·refine WC.seq <| WC.region <| Wa rfl rfl <| WL.nil <| WQ.seqN <| WC.ret <| WQ.blockRet <| WQ.thenRet <| WQ.thenRet <| WQ.blockRet <| WQ.thenRet <| WQ.ret1 rfl rfl ?_
    obtain rfl := Option.some.inj HF
    exact ⟨_, rfl, h70, S73, rfl, ob72⟩
   refine WC.skip <| WQ.blockN <| WQ.seqN <| WC.region <| Wv rfl (ov_add rfl rfl) <| Wm rfl rfl <| WL.nil <| WQ.loopN <| WP.to [0, 2, 9, 10, 11] [(0, pt b1 0), (2, vi x9), (9, sl b33 o34 (xs6).length c12), (10, vi (xs6.length : Int)), (11, vi (IntKind.i64.wrap (x18 + 1)))] rfl ?_
   exact IHL23 j22 (Nat.le_refl _) _ _ ⟨h70, IntKind.i64.wrap (x18 + 1), r66.2.1, r66.2.2, HF, rfl, S73, (le16).trans ((le28).trans ((s44.le).trans ((s62.le).trans s71.le))), ob72⟩
  intro J75
  refine WC.cF HF rfl (fun HF => ?_) (fun HF => ?_)
  ·refine WC.skip <| WC.to [0, 2, 9, 10, 11] _ rfl ?_
   exact J75 ⟨h14, HF, rfl, S17, Hle.refl _, ob21⟩
  refine WC.exit <| WQ.thenExit <| WQ.thenExit <| WQ.blockHit <| WQ.seqN <| WC.seq <| WC.region <| Wa rfl rfl <| WL.nil <| WQ.seqN <| WC.ret <| WQ.ret1 rfl rfl ?_
  obtain rfl := Option.some.inj HF
  exact ⟨_, rfl, h14, S17, rfl, ob21⟩
 exact ⟨h0, 0, x3, x4, HF, rfl, S0, Hle.refl _, ob5⟩
theorem s_ast_Counter_stmt (k : Nat) (IH : ∀ j, j ≤ k → C_ast_Counter_arm (tie_ast_Counter_arm j).ast_Counter_arm ∧ C_ast_Counter_Text (tie_ast_Counter_arm j).ast_Counter_Text ∧ C_ast_Counter_stmt (tie_ast_Counter_arm j).ast_Counter_stmt) : C_ast_Counter_stmt (m_ast_Counter_stmt k (tie_ast_Counter_arm k)) := by
 intro x3 x4 x6 x9 r HF w0 h0 b1 T2 cs7 hs0 r8 ob5
 have S0 : Stp [b1] w0 h0 w0 h0 := Stp.refl hs0 _
 have lt10 : b1 < w0.heap.size := OB.lt ob5
 refine enter (n := 185) Tryz.func75 rfl Tryz.ntmps75 rfl [(0, pt b1 0), (1, .agg cs7.toArray), (2, vi x9)] rfl <| WC.seq <| WC.region ?_
 obtain ⟨v11, v13, v15, v17, v19, v21, rfl, rs12, rs14, rs16, rs18, rs20, rs22⟩ := rp_St.1 r8
 refine WL.box (cs := [vi x6.op, .string x6.name, v11, v13, v15, vi x6.n, v17, v19, v21, .bool x6.els]) rfl rfl rfl rfl S0.sub (fun w23 b24 hb25 s26 ob27 => ?_)
 have ne28 : b1 ≠ b24 := ob5.ne_new hb25
 have g29 : w0.heap.size ≤ b24 := by rw [hb25]; exact S0.size
 have S30 := S0.trans0 s26
 refine Wa rfl rfl <| WL.nil <| WQ.seqN <| WC.seq <| WC.region ?_
 obtain ⟨v31, hv32, rm33⟩ := S30.sub.glob.g0
 refine Wv rfl (ov_load1 rfl t_agg_157 (S30.sub.at_ _ _ _ hv32)) <| Wv rfl (ov_fieldAddr rfl t_field_56_0) <| Wv rfl (ov_load1 rfl t_agg_3 (OB.cell ob27 (j := 0) rfl)) ?_
 obtain ⟨r34, hr35, HF⟩ := bind_some HF
 replace hr35 := Option.some.inj hr35
 refine Wv rfl (ov_lookupI2 (evl := (fun x : Bool × Int × Int × Bool × Bool => .agg #[.bool x.1, vi x.2.1, vi x.2.2.1, .bool x.2.2.2.1, .bool x.2.2.2.2])) (z := (false, 0, 0, false, false)) rfl rfl t_map_157 t_int_3 t_zero_155 rm33 S30.sub hr35) <| Wm rfl rfl <| Wv rfl (ov_extract rfl rfl) <| Wv rfl (ov_extract rfl rfl) ?_
 have ob36 := (ob5.step0 s26)
 refine WL.alloc (zs := [.bool false, vi 0, vi 0, .bool false, .bool false]) rfl rfl t_zero_155 rfl S30.sub (fun w37 b38 hb39 s40 ob41 => ?_)
 have ne42 : b1 ≠ b38 := ob36.ne_new hb39
 have ne43 : b24 ≠ b38 := ob27.ne_new hb39
 have g44 : w0.heap.size ≤ b38 := by rw [hb39]; exact S30.size
 have S45 := S30.trans0 s40
 refine WL.store (vs := [.bool ((r34.getD (false, 0, 0, false, false)).1), vi ((r34.getD (false, 0, 0, false, false)).2.1), vi ((r34.getD (false, 0, 0, false, false)).2.2.1), .bool ((r34.getD (false, 0, 0, false, false)).2.2.2.1), .bool ((r34.getD (false, 0, 0, false, false)).2.2.2.2)]) rfl rfl rfl rfl t_size_155 (one_cons rfl (one_cons rfl (one_cons rfl (one_cons rfl (one_cons rfl one_nil))))) ob41 S45.sub (by simp) (ds := [.bool ((r34.getD (false, 0, 0, false, false)).1), vi ((r34.getD (false, 0, 0, false, false)).2.1), vi ((r34.getD (false, 0, 0, false, false)).2.2.1), .bool ((r34.getD (false, 0, 0, false, false)).2.2.2.1), .bool ((r34.getD (false, 0, 0, false, false)).2.2.2.2)]) rfl (fun w46 s47 ob48 => ?_)
 have S49 := S45.trans1 s47 (.inr g44)
 refine Wa rfl rfl <| WL.nil <| WQ.seqN <| WC.join (fun E w106 => ∃ (h105 : Hp) (x109 : Int) (x110 : Int), ast_Counter_stmt_j2 k (tie_ast_Counter_arm k) x6 x9 r34 x109 x110 = some r ∧ E = [(0, pt b1 0), (2, vi x9), (4, pt b24 0), (7, pt b38 0)] ∧ Stp [b1] w0 h0 w106 h105 ∧ Hle h0 h105 ∧ OB w106 h105 b1 T2 [vi x109, vi x110] ∧ OB w106 h105 b24 56 [vi x6.op, .string x6.name, v11, v13, v15, vi x6.n, v17, v19, v21, .bool x6.els] ∧ OB w106 h105 b38 155 [.bool ((r34.getD (false, 0, 0, false, false)).1), vi ((r34.getD (false, 0, 0, false, false)).2.1), vi ((r34.getD (false, 0, 0, false, false)).2.2.1), .bool ((r34.getD (false, 0, 0, false, false)).2.2.2.1), .bool ((r34.getD (false, 0, 0, false, false)).2.2.2.2)]) ?_ ?_
 ·rintro E w106 ⟨h105, x109, x110, HF, rfl, S108, le107, ob111, ob112, ob113⟩
  refine WC.join (fun E w153 => ∃ (h152 : Hp), ast_Counter_stmt_j4 k (tie_ast_Counter_arm k) x6 x9 r34 x109 x110 = some r ∧ E = [(0, pt b1 0), (2, vi x9), (4, pt b24 0), (7, pt b38 0)] ∧ Stp [b1] w0 h0 w153 h152 ∧ Hle h105 h152 ∧ OB w153 h152 b1 T2 [vi x109, vi x110] ∧ OB w153 h152 b24 56 [vi x6.op, .string x6.name, v11, v13, v15, vi x6.n, v17, v19, v21, .bool x6.els] ∧ OB w153 h152 b38 155 [.bool ((r34.getD (false, 0, 0, false, false)).1), vi ((r34.getD (false, 0, 0, false, false)).2.1), vi ((r34.getD (false, 0, 0, false, false)).2.2.1), .bool ((r34.getD (false, 0, 0, false, false)).2.2.2.1), .bool ((r34.getD (false, 0, 0, false, false)).2.2.2.2)]) ?_ ?_
  ·rintro E w153 ⟨h152, HF, rfl, S155, le154, ob156, ob157, ob158⟩
   refine WC.join (fun E w199 => ∃ (h198 : Hp), ast_Counter_stmt_j6 k (tie_ast_Counter_arm k) x6 x9 r34 x109 x110 = some r ∧ E = [(0, pt b1 0), (2, vi x9), (4, pt b24 0), (7, pt b38 0)] ∧ Stp [b1] w0 h0 w199 h198 ∧ Hle h152 h198 ∧ OB w199 h198 b1 T2 [vi x109, vi x110] ∧ OB w199 h198 b24 56 [vi x6.op, .string x6.name, v11, v13, v15, vi x6.n, v17, v19, v21, .bool x6.els] ∧ OB w199 h198 b38 155 [.bool ((r34.getD (false, 0, 0, false, false)).1), vi ((r34.getD (false, 0, 0, false, false)).2.1), vi ((r34.getD (false, 0, 0, false, false)).2.2.1), .bool ((r34.getD (false, 0, 0, false, false)).2.2.2.1), .bool ((r34.getD (false, 0, 0, false, false)).2.2.2.2)]) ?_ ?_
   ·rintro E w199 ⟨h198, HF, rfl, S201, le200, ob202, ob203, ob204⟩
    refine WC.join (fun E w248 => ∃ (h247 : Hp), ast_Counter_stmt_j8 k (tie_ast_Counter_arm k) x6 x9 x109 x110 = some r ∧ E = [(0, pt b1 0), (2, vi x9), (4, pt b24 0)] ∧ Stp [b1] w0 h0 w248 h247 ∧ Hle h198 h247 ∧ OB w248 h247 b1 T2 [vi x109, vi x110] ∧ OB w248 h247 b24 56 [vi x6.op, .string x6.name, v11, v13, v15, vi x6.n, v17, v19, v21, .bool x6.els]) ?_ ?_
    ·rintro E w248 ⟨h247, HF, rfl, S250, le249, ob251, ob252⟩
     refine WC.seq <| WC.seq <| WC.region <| Wv rfl (ov_fieldAddr rfl t_field_56_7) <| Wv rfl (ov_load1 rfl t_agg_54 (OB.cell ob252 (j := 7) rfl)) ?_
     obtain ⟨A253, c254, rfl, rs255⟩ := RS.form (rs20.mono ((s26.le).trans ((s40.le).trans ((s47.le).trans ((le107).trans ((le154).trans ((le200).trans le249)))))))
     refine Wv rfl (ov_lenL rfl t_slice_54) <| Wm rfl rfl <| WL.nil <| WQ.seqN <| WC.block <| WC.loop <| WP.to [0, 2, 4, 140, 141, 142] [(0, pt b1 0), (2, vi x9), (4, pt b24 0), (140, .slice A253 (x6.arms).length c254), (141, vi (x6.arms.length : Int)), (142, vi 0)] rfl <| WP_rule (K := k) (fun j E w257 => ∃ (h256 : Hp) (x260 : Int) (x261 : Int) (x262 : Int), (tie_ast_Counter_arm j).ast_Counter_stmt_l9 x6 x9 x260 x261 x262 = some r ∧ E = [(0, pt b1 0), (2, vi x9), (4, pt b24 0), (140, .slice A253 (x6.arms).length c254), (141, vi (x6.arms.length : Int)), (142, vi x260)] ∧ Stp [b1] w0 h0 w257 h256 ∧ Hle h247 h256 ∧ OB w257 h256 b1 T2 [vi x261, vi x262] ∧ OB w257 h256 b24 56 [vi x6.op, .string x6.name, v11, v13, v15, vi x6.n, v17, .slice A253 (x6.arms).length c254, v21, .bool x6.els]) ?_ ?_ (j := k) (Nat.le_refl _) ?_
     ·rintro E w257 ⟨_, _, _, _, HF, _⟩; cases HF
     ·rintro j265 hj267 IHL266 E w257 ⟨h256, x260, x261, x262, HF, rfl, S259, le258, ob263, ob264⟩
      refine WC.seq <| WC.region <| Wv rfl (ov_lss rfl rfl) <| WL.nil <| WQ.seqN <| WC.join (fun E w308 => ∃ (h307 : Hp), ast_Counter_stmt_j10 j265 (tie_ast_Counter_arm j265) x6 x9 x260 x261 x262 = some r ∧ E = [(0, pt b1 0), (2, vi x9), (4, pt b24 0), (140, .slice A253 (x6.arms).length c254), (141, vi (x6.arms.length : Int)), (142, vi x260)] ∧ Stp [b1] w0 h0 w308 h307 ∧ Hle h256 h307 ∧ OB w308 h307 b1 T2 [vi x261, vi x262] ∧ OB w308 h307 b24 56 [vi x6.op, .string x6.name, v11, v13, v15, vi x6.n, v17, .slice A253 (x6.arms).length c254, v21, .bool x6.els]) ?_ ?_
      ·rintro E w308 ⟨h307, HF, rfl, S310, le309, ob311, ob312⟩
       refine WC.seq <| WC.block <| WC.seq <| WC.region ?_
       obtain ⟨e313, he314, HF⟩ := bind_some HF
       obtain ⟨b315, o316, rfl, h318, h319, ra317⟩ := RS.atO (rs255.mono ((le258).trans le309)) he314
       obtain ⟨cs320, r321, hc322⟩ := ra317
       refine Wv rfl (ov_indexAddr rfl rfl t_slice_54 t_size_77 h318 h319) <| Wv rfl (ov_loadN (cs := cs320) rfl t_agg_77 (by rw [Rp.len r321]; exact t_size_77) (fun j v hv => S310.sub.at_ _ _ _ (hc322 j v hv))) <| WL.alloc (zs := [.slice none 0 0, .slice none 0 0, .slice none 0 0]) rfl rfl t_zero_77 rfl S310.sub (fun w323 b324 hb325 s326 ob327 => ?_)
       have ne328 : b1 ≠ b324 := ob311.ne_new hb325
       have ne329 : b24 ≠ b324 := ob312.ne_new hb325
       have g330 : w0.heap.size ≤ b324 := by rw [hb325]; exact S310.size
       have S331 := S310.trans0 s326
       obtain ⟨v332, v334, v336, rfl, rs333, rs335, rs337⟩ := rp_Ar.1 (Rp.mono (s326.le) r321)
       refine WL.store (vs := [v332, v334, v336]) rfl rfl rfl rfl t_size_77 (one_cons (RS.one rs333) (one_cons (RS.one rs335) (one_cons (RS.one rs337) one_nil))) ob327 S331.sub (by simp) (ds := [v332, v334, v336]) rfl (fun w338 s339 ob340 => ?_)
       have S341 := S331.trans1 s339 (.inr g330)
       refine WL.nil <| WQ.seqN <| WC.seq <| WC.region <| Wm rfl rfl <| Wv rfl (ov_loadN (cs := [v332, v334, v336]) rfl t_agg_77 t_size_77 (OB.cells ob340 0 rfl)) <| Wv rfl (ov_fieldAddr rfl t_field_56_0) ?_
       have ob342 := ((ob312.step0 s326).step1 s339 ne329)
       refine Wv rfl (ov_load1 rfl t_agg_3 (OB.cell ob342 (j := 0) rfl)) <| Wm rfl rfl <| Wv rfl (ov_add rfl rfl) ?_
       have ob343 := ((ob311.step0 s326).step1 s339 ne328)
       obtain ⟨r344, hr345, HF⟩ := bind_some HF
       refine Wc rfl (oc_func (vs := [pt b1 0, .agg #[v332, v334, v336], vi x6.op, vi (IntKind.i64.wrap (x9 + 1))]) rfl t_ent_133) ((IH _ (Nat.le_trans (Nat.le_of_succ_le hj267) (Nat.le_refl _))).1 hr345 S341.sub (rp_Ar.2 ⟨_, _, _, rfl, (rs333.mono (s339.le)), (rs335.mono (s339.le)), (rs337.mono (s339.le))⟩) ob343) ?_
       rintro _ w347 ⟨h348, s349, rfl, ob350⟩
       have S351 := S341.trans s349 (in_cons (.inl (by simp)) in_nil)
       refine Wv rfl (ov_not rfl) <| WL.nil <| WQ.seqN <| WC.cF HF rfl (fun HF => ?_) (fun HF => ?_)
       ·refine WC.seq <| WC.region <| Wa rfl rfl <| WL.nil <| WQ.seqN <| WC.ret <| WQ.blockRet <| WQ.thenRet <| WQ.thenRet <| WQ.blockRet <| WQ.thenRet <| WQ.ret1 rfl rfl ?_
        obtain rfl := Option.some.inj HF
        exact ⟨_, rfl, h348, S351, rfl, ob350⟩
       refine WC.skip <| WQ.blockN <| WQ.seqN <| WC.region <| Wv rfl (ov_add rfl rfl) <| Wm rfl rfl <| WL.nil ?_
       have ob354 := (ob342.step1 s349 (Ne.symm ne28))
       refine WQ.loopN <| WP.to [0, 2, 4, 140, 141, 142] [(0, pt b1 0), (2, vi x9), (4, pt b24 0), (140, sl b315 o316 (x6.arms).length c254), (141, vi (x6.arms.length : Int)), (142, vi (IntKind.i64.wrap (x260 + 1)))] rfl ?_
       exact IHL266 j265 (Nat.le_refl _) _ _ ⟨h348, IntKind.i64.wrap (x260 + 1), r344.2.1, r344.2.2, HF, rfl, S351, (le258).trans ((le309).trans ((s326.le).trans ((s339.le).trans s349.le))), ob350, ob354⟩
      intro J353
      refine WC.cF HF rfl (fun HF => ?_) (fun HF => ?_)
      ·refine WC.skip <| WC.to [0, 2, 4, 140, 141, 142] _ rfl ?_
       exact J353 ⟨h256, HF, rfl, S259, Hle.refl _, ob263, ob264⟩
      refine WC.exit <| WQ.thenExit <| WQ.thenExit <| WQ.blockHit <| WQ.seqN <| WC.seq <| WC.region <| Wm rfl rfl <| Wv rfl (ov_fieldAddr rfl t_field_56_2) <| Wv rfl (ov_load1 rfl t_agg_45 (OB.cell ob264 (j := 2) rfl)) <| Wm rfl rfl <| Wv rfl (ov_add rfl rfl) ?_
      obtain ⟨r269, hr270, HF⟩ := bind_some HF
      refine Wc rfl (oc_func (vs := [pt b1 0, v11, vi (IntKind.i64.wrap (x9 + 1))]) rfl t_ent_134) (ok_ast_Counter_Exprs _ hr270 S259.sub (rs12.mono ((s26.le).trans ((s40.le).trans ((s47.le).trans ((le107).trans ((le154).trans ((le200).trans ((le249).trans le258)))))))) ob263) ?_
      rintro _ w272 ⟨h273, s274, rfl, ob275⟩
      have S276 := S259.trans s274 (in_cons (.inl (by simp)) in_nil)
      refine Wm rfl rfl <| WL.sF 161 HF rfl (fun HF => ?_) (fun HF => ?_)
      ·refine Wm rfl rfl <| Wv rfl (ov_fieldAddr rfl t_field_56_4) ?_
       have ob278 := (ob264.step1 s274 (Ne.symm ne28))
       refine Wv rfl (ov_load1 rfl t_agg_45 (OB.cell ob278 (j := 4) rfl)) <| Wm rfl rfl <| Wv rfl (ov_add rfl rfl) ?_
       obtain ⟨r279, hr280, HF⟩ := bind_some HF
       refine Wc rfl (oc_func (vs := [pt b1 0, v15, vi (IntKind.i64.wrap (x9 + 1))]) rfl t_ent_134) (ok_ast_Counter_Exprs _ hr280 S276.sub (rs16.mono ((s26.le).trans ((s40.le).trans ((s47.le).trans ((le107).trans ((le154).trans ((le200).trans ((le249).trans ((le258).trans s274.le))))))))) ob275) ?_
       rintro _ w282 ⟨h283, s284, rfl, ob285⟩
       have S286 := S276.trans s284 (in_cons (.inl (by simp)) in_nil)
       refine Wv rfl (ov_pickT rfl rfl) <| Wm rfl rfl <| WL.sF 169 HF rfl (fun HF => ?_) (fun HF => ?_)
       ·refine Wm rfl rfl <| Wv rfl (ov_fieldAddr rfl t_field_56_6) ?_
        have ob288 := (ob278.step1 s284 (Ne.symm ne28))
        refine Wv rfl (ov_load1 rfl t_agg_22 (OB.cell ob288 (j := 6) rfl)) <| Wm rfl rfl <| Wv rfl (ov_add rfl rfl) ?_
        obtain ⟨r289, hr290, HF⟩ := bind_some HF
        refine Wc rfl (oc_func (vs := [pt b1 0, v17, vi (IntKind.i64.wrap (x9 + 1))]) rfl t_ent_43) ((IH _ (Nat.le_trans (Nat.le_of_succ_le hj267) (Nat.le_refl _))).2.1 hr290 S286.sub (rs18.mono ((s26.le).trans ((s40.le).trans ((s47.le).trans ((le107).trans ((le154).trans ((le200).trans ((le249).trans ((le258).trans ((s274.le).trans s284.le)))))))))) ob285) ?_
        rintro _ w292 ⟨h293, s294, rfl, ob295⟩
        have S296 := S286.trans s294 (in_cons (.inl (by simp)) in_nil)
        refine Wv rfl (ov_pickT rfl rfl) <| Wm rfl rfl <| WL.sF 177 HF rfl (fun HF => ?_) (fun HF => ?_)
        ·refine Wm rfl rfl <| Wv rfl (ov_fieldAddr rfl t_field_56_8) ?_
         have ob298 := (ob288.step1 s294 (Ne.symm ne28))
         refine Wv rfl (ov_load1 rfl t_agg_22 (OB.cell ob298 (j := 8) rfl)) <| Wm rfl rfl <| Wv rfl (ov_add rfl rfl) ?_
         obtain ⟨r299, hr300, HF⟩ := bind_some HF
         refine Wc rfl (oc_func (vs := [pt b1 0, v21, vi (IntKind.i64.wrap (x9 + 1))]) rfl t_ent_43) ((IH _ (Nat.le_trans (Nat.le_of_succ_le hj267) (Nat.le_refl _))).2.1 hr300 S296.sub (rs22.mono ((s26.le).trans ((s40.le).trans ((s47.le).trans ((le107).trans ((le154).trans ((le200).trans ((le249).trans ((le258).trans ((s274.le).trans ((s284.le).trans s294.le))))))))))) ob295) ?_
         rintro _ w302 ⟨h303, s304, rfl, ob305⟩
         have S306 := S296.trans s304 (in_cons (.inl (by simp)) in_nil)
         refine Wv rfl (ov_pickT rfl rfl) <| Wa rfl rfl <| WL.nil <| WQ.seqN <| WC.ret <| WQ.ret1 rfl rfl ?_
         obtain rfl := Option.some.inj HF
         exact ⟨_, rfl, h303, S306, rfl, ob305⟩
        refine Wp rfl <| Wp rfl <| Wp rfl <| Wp rfl <| Wp rfl <| Wp rfl <| Wv rfl (ov_pickF rfl rfl) <| Wa rfl rfl <| WL.nil <| WQ.seqN <| WC.ret <| WQ.ret1 rfl rfl ?_
        obtain rfl := Option.some.inj HF
        exact ⟨_, rfl, h293, S296, rfl, ob295⟩
       refine Wp rfl <| Wp rfl <| Wp rfl <| Wp rfl <| Wp rfl <| Wp rfl <| Wv rfl (ov_pickF rfl rfl) <| Wm rfl rfl <| Wp rfl <| Wp rfl <| Wp rfl <| Wp rfl <| Wp rfl <| Wp rfl <| Wv rfl (ov_pickF rfl rfl) <| Wa rfl rfl <| WL.nil <| WQ.seqN <| WC.ret <| WQ.ret1 rfl rfl ?_
       obtain rfl := Option.some.inj HF
       exact ⟨_, rfl, h283, S286, rfl, ob285⟩
      refine Wp rfl <| Wp rfl <| Wp rfl <| Wp rfl <| Wp rfl <| Wp rfl <| Wv rfl (ov_pickF rfl rfl) <| Wm rfl rfl <| Wp rfl <| Wp rfl <| Wp rfl <| Wp rfl <| Wp rfl <| Wp rfl <| Wv rfl (ov_pickF rfl rfl) <| Wm rfl rfl <| Wp rfl <| Wp rfl <| Wp rfl <| Wp rfl <| Wp rfl <| Wp rfl <| Wv rfl (ov_pickF rfl rfl) <| Wa rfl rfl <| WL.nil <| WQ.seqN <| WC.ret <| WQ.ret1 rfl rfl ?_
      obtain rfl := Option.some.inj HF
      exact ⟨_, rfl, h273, S276, rfl, ob275⟩
     exact ⟨h247, 0, x109, x110, HF, rfl, S250, Hle.refl _, ob251, ob252⟩
    intro J355
    refine WC.join (fun E w239 => ∃ (h238 : Hp) (x242 : Bool), ast_Counter_stmt_j7 k (tie_ast_Counter_arm k) x6 x9 x109 x110 x242 = some r ∧ E = [(0, pt b1 0), (2, vi x9), (4, pt b24 0), (138, .bool x242)] ∧ Stp [b1] w0 h0 w239 h238 ∧ Hle h198 h238 ∧ OB w239 h238 b1 T2 [vi x109, vi x110] ∧ OB w239 h238 b24 56 [vi x6.op, .string x6.name, v11, v13, v15, vi x6.n, v17, v19, v21, .bool x6.els]) ?_ ?_
    ·rintro E w239 ⟨h238, x242, HF, rfl, S241, le240, ob243, ob244⟩
     refine WC.cF HF rfl (fun HF => ?_) (fun HF => ?_)
     ·refine WC.seq <| WC.region <| Wa rfl rfl <| WL.nil <| WQ.seqN <| WC.ret <| WQ.thenRet <| WQ.ret1 rfl rfl ?_
      obtain rfl := Option.some.inj HF
      exact ⟨_, rfl, h238, S241, rfl, ob243⟩
     refine WC.skip <| WC.to [0, 2, 4] _ rfl ?_
     exact J355 ⟨h238, HF, rfl, S241, le240, ob243, ob244⟩
    intro J246
    refine WC.region <| Wv rfl (ov_fieldAddr rfl t_field_155_3) <| Wv rfl (ov_load1 rfl t_agg_4 (OB.cell ob204 (j := 3) rfl)) <| Wv rfl (ov_not rfl) <| Wm rfl rfl <| WL.sF 107 HF rfl (fun HF => ?_) (fun HF => ?_)
    ·refine Wv rfl (ov_fieldAddr rfl t_field_56_6) <| Wv rfl (ov_load1 rfl t_agg_22 (OB.cell ob203 (j := 6) rfl)) ?_
     obtain ⟨A206, c207, rfl, rs208⟩ := RS.form (rs18.mono ((s26.le).trans ((s40.le).trans ((s47.le).trans ((le107).trans ((le154).trans le200))))))
     refine Wv rfl (ov_lenL rfl t_slice_22) <| Wv rfl (ov_gtr rfl rfl) <| Wv rfl (ov_pickT rfl rfl) <| Wm rfl rfl <| WL.sF 113 HF rfl (fun HF => ?_) (fun HF => ?_)
     ·refine Wp rfl <| Wp rfl <| Wp rfl <| Wp rfl <| Wp rfl <| Wp rfl <| Wp rfl <| Wp rfl <| Wp rfl <| Wp rfl <| Wp rfl <| Wp rfl <| Wp rfl <| Wv rfl (ov_pickT rfl rfl) <| Wm rfl rfl <| Wp rfl <| Wp rfl <| Wp rfl <| Wp rfl <| Wp rfl <| Wp rfl <| Wp rfl <| Wp rfl <| Wp rfl <| Wv rfl (ov_pickT rfl rfl) <| WL.nil <| WC.to [0, 2, 4, 138] _ rfl ?_
      exact J246 ⟨h198, true, HF, rfl, S201, Hle.refl _, ob202, ob203⟩
     refine Wv rfl (ov_fieldAddr rfl t_field_155_4) <| Wv rfl (ov_load1 rfl t_agg_4 (OB.cell ob204 (j := 4) rfl)) <| Wv rfl (ov_not rfl) <| Wm rfl rfl <| WL.sF 117 HF rfl (fun HF => ?_) (fun HF => ?_)
     ·refine Wv rfl (ov_fieldAddr rfl t_field_56_7) <| Wv rfl (ov_load1 rfl t_agg_54 (OB.cell ob203 (j := 7) rfl)) ?_
      obtain ⟨A211, c212, rfl, rs213⟩ := RS.form (rs20.mono ((s26.le).trans ((s40.le).trans ((s47.le).trans ((le107).trans ((le154).trans le200))))))
      refine Wv rfl (ov_lenL rfl t_slice_54) <| Wv rfl (ov_gtr rfl rfl) <| Wm rfl rfl <| WL.sF 122 HF rfl (fun HF => ?_) (fun HF => ?_)
      ·refine Wp rfl <| Wp rfl <| Wv rfl (ov_pickT rfl rfl) <| Wv rfl (ov_pickT rfl rfl) <| Wv rfl (ov_pickF rfl rfl) <| Wm rfl rfl <| Wp rfl <| Wp rfl <| Wp rfl <| Wp rfl <| Wp rfl <| Wp rfl <| Wp rfl <| Wp rfl <| Wp rfl <| Wv rfl (ov_pickT rfl rfl) <| WL.nil <| WC.to [0, 2, 4, 138] _ rfl ?_
       exact J246 ⟨h198, true, HF, rfl, S201, Hle.refl _, ob202, ob203⟩
      refine Wv rfl (ov_fieldAddr rfl t_field_56_9) <| Wv rfl (ov_load1 rfl t_agg_4 (OB.cell ob203 (j := 9) rfl)) <| Wv rfl (ov_pickF rfl rfl) <| Wv rfl (ov_pickT rfl rfl) <| Wv rfl (ov_pickF rfl rfl) <| Wm rfl rfl <| WL.sF 128 HF rfl (fun HF => ?_) (fun HF => ?_)
      ·refine Wp rfl <| Wp rfl <| Wp rfl <| Wp rfl <| Wp rfl <| Wp rfl <| Wp rfl <| Wp rfl <| Wp rfl <| Wv rfl (ov_pickT rfl rfl) <| WL.nil <| WC.to [0, 2, 4, 138] _ rfl ?_
       exact J246 ⟨h198, true, HF, rfl, S201, Hle.refl _, ob202, ob203⟩
      refine Wv rfl (ov_fieldAddr rfl t_field_56_9) <| Wv rfl (ov_load1 rfl t_agg_4 (OB.cell ob203 (j := 9) rfl)) <| Wv rfl (ov_not rfl) <| Wm rfl rfl <| WL.sF 132 HF rfl (fun HF => ?_) (fun HF => ?_)
      ·refine Wv rfl (ov_fieldAddr rfl t_field_56_8) <| Wv rfl (ov_load1 rfl t_agg_22 (OB.cell ob203 (j := 8) rfl)) ?_
       obtain ⟨A217, c218, rfl, rs219⟩ := RS.form (rs22.mono ((s26.le).trans ((s40.le).trans ((s47.le).trans ((le107).trans ((le154).trans le200))))))
       refine Wv rfl (ov_lenL rfl t_slice_22) <| Wv rfl (ov_gtr rfl rfl) <| Wv rfl (ov_pickT rfl rfl) <| Wv rfl (ov_pickF rfl rfl) <| WL.nil <| WC.to [0, 2, 4, 138] _ rfl ?_
       exact J246 ⟨h198, decide ((0 : Int) < (x6.other.length : Int)), HF, rfl, S201, Hle.refl _, ob202, ob203⟩
      refine Wp rfl <| Wp rfl <| Wp rfl <| Wp rfl <| Wv rfl (ov_pickF rfl rfl) <| Wv rfl (ov_pickF rfl rfl) <| WL.nil <| WC.to [0, 2, 4, 138] _ rfl ?_
      exact J246 ⟨h198, false, HF, rfl, S201, Hle.refl _, ob202, ob203⟩
     refine Wp rfl <| Wp rfl <| Wp rfl <| Wp rfl <| Wp rfl <| Wp rfl <| Wp rfl <| Wp rfl <| Wv rfl (ov_pickF rfl rfl) <| Wv rfl (ov_pickF rfl rfl) <| Wm rfl rfl <| Wv rfl (ov_fieldAddr rfl t_field_56_9) <| Wv rfl (ov_load1 rfl t_agg_4 (OB.cell ob203 (j := 9) rfl)) <| Wv rfl (ov_not rfl) <| Wm rfl rfl <| WL.sF 132 HF rfl (fun HF => ?_) (fun HF => ?_)
     ·refine Wv rfl (ov_fieldAddr rfl t_field_56_8) <| Wv rfl (ov_load1 rfl t_agg_22 (OB.cell ob203 (j := 8) rfl)) ?_
      obtain ⟨A221, c222, rfl, rs223⟩ := RS.form (rs22.mono ((s26.le).trans ((s40.le).trans ((s47.le).trans ((le107).trans ((le154).trans le200))))))
      refine Wv rfl (ov_lenL rfl t_slice_22) <| Wv rfl (ov_gtr rfl rfl) <| Wv rfl (ov_pickT rfl rfl) <| Wv rfl (ov_pickF rfl rfl) <| WL.nil <| WC.to [0, 2, 4, 138] _ rfl ?_
      exact J246 ⟨h198, decide ((0 : Int) < (x6.other.length : Int)), HF, rfl, S201, Hle.refl _, ob202, ob203⟩
     refine Wp rfl <| Wp rfl <| Wp rfl <| Wp rfl <| Wv rfl (ov_pickF rfl rfl) <| Wv rfl (ov_pickF rfl rfl) <| WL.nil <| WC.to [0, 2, 4, 138] _ rfl ?_
     exact J246 ⟨h198, false, HF, rfl, S201, Hle.refl _, ob202, ob203⟩
    refine Wp rfl <| Wp rfl <| Wp rfl <| Wp rfl <| Wv rfl (ov_pickF rfl rfl) <| Wm rfl rfl <| Wv rfl (ov_fieldAddr rfl t_field_155_4) <| Wv rfl (ov_load1 rfl t_agg_4 (OB.cell ob204 (j := 4) rfl)) <| Wv rfl (ov_not rfl) <| Wm rfl rfl <| WL.sF 117 HF rfl (fun HF => ?_) (fun HF => ?_)
    ·refine Wv rfl (ov_fieldAddr rfl t_field_56_7) <| Wv rfl (ov_load1 rfl t_agg_54 (OB.cell ob203 (j := 7) rfl)) ?_
     obtain ⟨A225, c226, rfl, rs227⟩ := RS.form (rs20.mono ((s26.le).trans ((s40.le).trans ((s47.le).trans ((le107).trans ((le154).trans le200))))))
     refine Wv rfl (ov_lenL rfl t_slice_54) <| Wv rfl (ov_gtr rfl rfl) <| Wm rfl rfl <| WL.sF 122 HF rfl (fun HF => ?_) (fun HF => ?_)
     ·refine Wp rfl <| Wp rfl <| Wv rfl (ov_pickT rfl rfl) <| Wv rfl (ov_pickT rfl rfl) <| Wv rfl (ov_pickF rfl rfl) <| Wm rfl rfl <| Wp rfl <| Wp rfl <| Wp rfl <| Wp rfl <| Wp rfl <| Wp rfl <| Wp rfl <| Wp rfl <| Wp rfl <| Wv rfl (ov_pickT rfl rfl) <| WL.nil <| WC.to [0, 2, 4, 138] _ rfl ?_
      exact J246 ⟨h198, true, HF, rfl, S201, Hle.refl _, ob202, ob203⟩
     refine Wv rfl (ov_fieldAddr rfl t_field_56_9) <| Wv rfl (ov_load1 rfl t_agg_4 (OB.cell ob203 (j := 9) rfl)) <| Wv rfl (ov_pickF rfl rfl) <| Wv rfl (ov_pickT rfl rfl) <| Wv rfl (ov_pickF rfl rfl) <| Wm rfl rfl <| WL.sF 128 HF rfl (fun HF => ?_) (fun HF => ?_)
     ·refine Wp rfl <| Wp rfl <| Wp rfl <| Wp rfl <| Wp rfl <| Wp rfl <| Wp rfl <| Wp rfl <| Wp rfl <| Wv rfl (ov_pickT rfl rfl) <| WL.nil <| WC.to [0, 2, 4, 138] _ rfl ?_
      exact J246 ⟨h198, true, HF, rfl, S201, Hle.refl _, ob202, ob203⟩
     refine Wv rfl (ov_fieldAddr rfl t_field_56_9) <| Wv rfl (ov_load1 rfl t_agg_4 (OB.cell ob203 (j := 9) rfl)) <| Wv rfl (ov_not rfl) <| Wm rfl rfl <| WL.sF 132 HF rfl (fun HF => ?_) (fun HF => ?_)
     ·refine Wv rfl (ov_fieldAddr rfl t_field_56_8) <| Wv rfl (ov_load1 rfl t_agg_22 (OB.cell ob203 (j := 8) rfl)) ?_
      obtain ⟨A231, c232, rfl, rs233⟩ := RS.form (rs22.mono ((s26.le).trans ((s40.le).trans ((s47.le).trans ((le107).trans ((le154).trans le200))))))
      refine Wv rfl (ov_lenL rfl t_slice_22) <| Wv rfl (ov_gtr rfl rfl) <| Wv rfl (ov_pickT rfl rfl) <| Wv rfl (ov_pickF rfl rfl) <| WL.nil <| WC.to [0, 2, 4, 138] _ rfl ?_
      exact J246 ⟨h198, decide ((0 : Int) < (x6.other.length : Int)), HF, rfl, S201, Hle.refl _, ob202, ob203⟩
     refine Wp rfl <| Wp rfl <| Wp rfl <| Wp rfl <| Wv rfl (ov_pickF rfl rfl) <| Wv rfl (ov_pickF rfl rfl) <| WL.nil <| WC.to [0, 2, 4, 138] _ rfl ?_
     exact J246 ⟨h198, false, HF, rfl, S201, Hle.refl _, ob202, ob203⟩
    refine Wp rfl <| Wp rfl <| Wp rfl <| Wp rfl <| Wp rfl <| Wp rfl <| Wp rfl <| Wp rfl <| Wv rfl (ov_pickF rfl rfl) <| Wv rfl (ov_pickF rfl rfl) <| Wm rfl rfl <| Wv rfl (ov_fieldAddr rfl t_field_56_9) <| Wv rfl (ov_load1 rfl t_agg_4 (OB.cell ob203 (j := 9) rfl)) <| Wv rfl (ov_not rfl) <| Wm rfl rfl <| WL.sF 132 HF rfl (fun HF => ?_) (fun HF => ?_)
    ·refine Wv rfl (ov_fieldAddr rfl t_field_56_8) <| Wv rfl (ov_load1 rfl t_agg_22 (OB.cell ob203 (j := 8) rfl)) ?_
     obtain ⟨A235, c236, rfl, rs237⟩ := RS.form (rs22.mono ((s26.le).trans ((s40.le).trans ((s47.le).trans ((le107).trans ((le154).trans le200))))))
     refine Wv rfl (ov_lenL rfl t_slice_22) <| Wv rfl (ov_gtr rfl rfl) <| Wv rfl (ov_pickT rfl rfl) <| Wv rfl (ov_pickF rfl rfl) <| WL.nil <| WC.to [0, 2, 4, 138] _ rfl ?_
     exact J246 ⟨h198, decide ((0 : Int) < (x6.other.length : Int)), HF, rfl, S201, Hle.refl _, ob202, ob203⟩
    refine Wp rfl <| Wp rfl <| Wp rfl <| Wp rfl <| Wv rfl (ov_pickF rfl rfl) <| Wv rfl (ov_pickF rfl rfl) <| WL.nil <| WC.to [0, 2, 4, 138] _ rfl ?_
    exact J246 ⟨h198, false, HF, rfl, S201, Hle.refl _, ob202, ob203⟩
   intro J356
   refine WC.join (fun E w182 => ∃ (h181 : Hp) (x185 : Bool), ast_Counter_stmt_j5 k (tie_ast_Counter_arm k) x6 x9 r34 x109 x110 x185 = some r ∧ E = [(0, pt b1 0), (2, vi x9), (4, pt b24 0), (7, pt b38 0), (103, .bool x185)] ∧ Stp [b1] w0 h0 w182 h181 ∧ Hle h152 h181 ∧ OB w182 h181 b1 T2 [vi x109, vi x110] ∧ OB w182 h181 b24 56 [vi x6.op, .string x6.name, v11, v13, v15, vi x6.n, v17, v19, v21, .bool x6.els] ∧ OB w182 h181 b38 155 [.bool ((r34.getD (false, 0, 0, false, false)).1), vi ((r34.getD (false, 0, 0, false, false)).2.1), vi ((r34.getD (false, 0, 0, false, false)).2.2.1), .bool ((r34.getD (false, 0, 0, false, false)).2.2.2.1), .bool ((r34.getD (false, 0, 0, false, false)).2.2.2.2)]) ?_ ?_
   ·rintro E w182 ⟨h181, x185, HF, rfl, S184, le183, ob186, ob187, ob188⟩
    refine WC.cF HF rfl (fun HF => ?_) (fun HF => ?_)
    ·refine WC.seq <| WC.region <| Wa rfl rfl <| WL.nil <| WQ.seqN <| WC.ret <| WQ.thenRet <| WQ.ret1 rfl rfl ?_
     obtain rfl := Option.some.inj HF
     exact ⟨_, rfl, h181, S184, rfl, ob186⟩
    refine WC.skip <| WC.to [0, 2, 4, 7] _ rfl ?_
    exact J356 ⟨h181, HF, rfl, S184, le183, ob186, ob187, ob188⟩
   intro J190
   refine WC.region <| Wv rfl (ov_fieldAddr rfl t_field_56_0) <| Wv rfl (ov_load1 rfl t_agg_3 (OB.cell ob157 (j := 0) rfl)) <| Wv rfl (ov_eql rfl rfl) <| Wm rfl rfl <| WL.sF 78 HF rfl (fun HF => ?_) (fun HF => ?_)
   ·refine Wv rfl (ov_fieldAddr rfl t_field_56_3) <| Wv rfl (ov_load1 rfl t_agg_53 (OB.cell ob157 (j := 3) rfl)) ?_
    obtain ⟨A160, c161, rfl, rs162⟩ := RS.form (rs14.mono ((s26.le).trans ((s40.le).trans ((s47.le).trans ((le107).trans le154)))))
    refine Wv rfl (ov_lenL rfl t_slice_53) <| Wv rfl (ov_fieldAddr rfl t_field_56_4) <| Wv rfl (ov_load1 rfl t_agg_45 (OB.cell ob157 (j := 4) rfl)) ?_
    obtain ⟨A163, c164, rfl, rs165⟩ := RS.form (rs16.mono ((s26.le).trans ((s40.le).trans ((s47.le).trans ((le107).trans le154)))))
    refine Wv rfl (ov_lenL rfl t_slice_45) <| Wv rfl (ov_neq rfl rfl) <| Wm rfl rfl <| WL.sF 86 HF rfl (fun HF => ?_) (fun HF => ?_)
    ·refine Wp rfl <| Wp rfl <| Wp rfl <| Wp rfl <| Wv rfl (ov_pickT rfl rfl) <| Wv rfl (ov_pickT rfl rfl) <| Wm rfl rfl <| Wp rfl <| Wp rfl <| Wp rfl <| Wp rfl <| Wp rfl <| Wp rfl <| Wp rfl <| Wp rfl <| Wp rfl <| Wv rfl (ov_pickT rfl rfl) <| WL.nil <| WC.to [0, 2, 4, 7, 103] _ rfl ?_
     exact J190 ⟨h152, true, HF, rfl, S155, Hle.refl _, ob156, ob157, ob158⟩
    refine Wv rfl (ov_fieldAddr rfl t_field_56_3) <| Wv rfl (ov_load1 rfl t_agg_53 (OB.cell ob157 (j := 3) rfl)) ?_
    obtain ⟨r167, hr168, HF⟩ := bind_some HF
    refine Wc rfl (oc_func (vs := [.slice A160 (x6.fields).length c161]) rfl t_ent_132) (ok_ast_AreNames _ hr168 S155.sub rs162) ?_
    rintro _ w170 ⟨h171, s172, rfl⟩
    have S173 := S155.trans0 s172
    refine Wv rfl (ov_not rfl) <| Wv rfl (ov_pickF rfl rfl) <| Wv rfl (ov_pickT rfl rfl) <| Wm rfl rfl <| WL.sF 93 HF rfl (fun HF => ?_) (fun HF => ?_)
    ·refine Wp rfl <| Wp rfl <| Wp rfl <| Wp rfl <| Wp rfl <| Wp rfl <| Wp rfl <| Wp rfl <| Wp rfl <| Wv rfl (ov_pickT rfl rfl) <| WL.nil ?_
     have ob191 := (ob156.step0 s172)
     have ob192 := (ob157.step0 s172)
     have ob193 := (ob158.step0 s172)
     refine WC.to [0, 2, 4, 7, 103] _ rfl ?_
     exact J190 ⟨h171, true, HF, rfl, S173, s172.le, ob191, ob192, ob193⟩
    refine Wv rfl (ov_fieldAddr rfl t_field_56_0) ?_
    have ob175 := (ob157.step0 s172)
    refine Wv rfl (ov_load1 rfl t_agg_3 (OB.cell ob175 (j := 0) rfl)) <| Wv rfl (ov_neq rfl rfl) <| Wm rfl rfl <| WL.sF 97 HF rfl (fun HF => ?_) (fun HF => ?_)
    ·refine Wv rfl (ov_fieldAddr rfl t_field_56_3) <| Wv rfl (ov_load1 rfl t_agg_53 (OB.cell ob175 (j := 3) rfl)) <| Wv rfl (ov_lenL rfl t_slice_53) <| Wv rfl (ov_gtr rfl rfl) <| Wv rfl (ov_pickT rfl rfl) <| Wv rfl (ov_pickF rfl rfl) <| WL.nil ?_
     have ob194 := (ob156.step0 s172)
     have ob195 := (ob158.step0 s172)
     refine WC.to [0, 2, 4, 7, 103] _ rfl ?_
     exact J190 ⟨h171, decide ((0 : Int) < (x6.fields.length : Int)), HF, rfl, S173, s172.le, ob194, ob175, ob195⟩
    refine Wp rfl <| Wp rfl <| Wp rfl <| Wp rfl <| Wv rfl (ov_pickF rfl rfl) <| Wv rfl (ov_pickF rfl rfl) <| WL.nil ?_
    have ob196 := (ob156.step0 s172)
    have ob197 := (ob158.step0 s172)
    refine WC.to [0, 2, 4, 7, 103] _ rfl ?_
    exact J190 ⟨h171, false, HF, rfl, S173, s172.le, ob196, ob175, ob197⟩
   refine Wp rfl <| Wp rfl <| Wp rfl <| Wp rfl <| Wp rfl <| Wp rfl <| Wp rfl <| Wp rfl <| Wp rfl <| Wp rfl <| Wp rfl <| Wp rfl <| Wp rfl <| Wv rfl (ov_pickF rfl rfl) <| Wm rfl rfl <| Wv rfl (ov_fieldAddr rfl t_field_56_0) <| Wv rfl (ov_load1 rfl t_agg_3 (OB.cell ob157 (j := 0) rfl)) <| Wv rfl (ov_neq rfl rfl) <| Wm rfl rfl <| WL.sF 97 HF rfl (fun HF => ?_) (fun HF => ?_)
   ·refine Wv rfl (ov_fieldAddr rfl t_field_56_3) <| Wv rfl (ov_load1 rfl t_agg_53 (OB.cell ob157 (j := 3) rfl)) ?_
    obtain ⟨A178, c179, rfl, rs180⟩ := RS.form (rs14.mono ((s26.le).trans ((s40.le).trans ((s47.le).trans ((le107).trans le154)))))
    refine Wv rfl (ov_lenL rfl t_slice_53) <| Wv rfl (ov_gtr rfl rfl) <| Wv rfl (ov_pickT rfl rfl) <| Wv rfl (ov_pickF rfl rfl) <| WL.nil <| WC.to [0, 2, 4, 7, 103] _ rfl ?_
    exact J190 ⟨h152, decide ((0 : Int) < (x6.fields.length : Int)), HF, rfl, S155, Hle.refl _, ob156, ob157, ob158⟩
   refine Wp rfl <| Wp rfl <| Wp rfl <| Wp rfl <| Wv rfl (ov_pickF rfl rfl) <| Wv rfl (ov_pickF rfl rfl) <| WL.nil <| WC.to [0, 2, 4, 7, 103] _ rfl ?_
   exact J190 ⟨h152, false, HF, rfl, S155, Hle.refl _, ob156, ob157, ob158⟩
  intro J357
  refine WC.join (fun E w137 => ∃ (h136 : Hp) (x140 : Bool), ast_Counter_stmt_j3 k (tie_ast_Counter_arm k) x6 x9 r34 x109 x110 x140 = some r ∧ E = [(0, pt b1 0), (2, vi x9), (4, pt b24 0), (7, pt b38 0), (74, .bool x140)] ∧ Stp [b1] w0 h0 w137 h136 ∧ Hle h105 h136 ∧ OB w137 h136 b1 T2 [vi x109, vi x110] ∧ OB w137 h136 b24 56 [vi x6.op, .string x6.name, v11, v13, v15, vi x6.n, v17, v19, v21, .bool x6.els] ∧ OB w137 h136 b38 155 [.bool ((r34.getD (false, 0, 0, false, false)).1), vi ((r34.getD (false, 0, 0, false, false)).2.1), vi ((r34.getD (false, 0, 0, false, false)).2.2.1), .bool ((r34.getD (false, 0, 0, false, false)).2.2.2.1), .bool ((r34.getD (false, 0, 0, false, false)).2.2.2.2)]) ?_ ?_
  ·rintro E w137 ⟨h136, x140, HF, rfl, S139, le138, ob141, ob142, ob143⟩
   refine WC.cF HF rfl (fun HF => ?_) (fun HF => ?_)
   ·refine WC.seq <| WC.region <| Wa rfl rfl <| WL.nil <| WQ.seqN <| WC.ret <| WQ.thenRet <| WQ.ret1 rfl rfl ?_
    obtain rfl := Option.some.inj HF
    exact ⟨_, rfl, h136, S139, rfl, ob141⟩
   refine WC.skip <| WC.to [0, 2, 4, 7] _ rfl ?_
   exact J357 ⟨h136, HF, rfl, S139, le138, ob141, ob142, ob143⟩
  intro J145
  refine WC.region <| Wv rfl (ov_fieldAddr rfl t_field_56_2) <| Wv rfl (ov_load1 rfl t_agg_45 (OB.cell ob112 (j := 2) rfl)) ?_
  obtain ⟨A114, c115, rfl, rs116⟩ := RS.form (rs12.mono ((s26.le).trans ((s40.le).trans ((s47.le).trans le107))))
  refine Wv rfl (ov_lenL rfl t_slice_45) <| Wv rfl (ov_gtr rfl rfl) <| Wm rfl rfl <| WL.sF 49 HF rfl (fun HF => ?_) (fun HF => ?_)
  ·refine Wv rfl (ov_fieldAddr rfl t_field_56_0) <| Wv rfl (ov_load1 rfl t_agg_3 (OB.cell ob112 (j := 0) rfl)) <| Wv rfl (ov_neq rfl rfl) <| Wm rfl rfl <| WL.sF 53 HF rfl (fun HF => ?_) (fun HF => ?_)
   ·refine Wp rfl <| Wp rfl <| Wp rfl <| Wp rfl <| Wv rfl (ov_pickT rfl rfl) <| Wv rfl (ov_pickT rfl rfl) <| Wm rfl rfl <| Wp rfl <| Wp rfl <| Wp rfl <| Wp rfl <| Wp rfl <| Wp rfl <| Wp rfl <| Wv rfl (ov_pickT rfl rfl) <| Wm rfl rfl <| Wp rfl <| Wp rfl <| Wp rfl <| Wp rfl <| Wv rfl (ov_pickT rfl rfl) <| WL.nil <| WC.to [0, 2, 4, 7, 74] _ rfl ?_
    exact J145 ⟨h105, true, HF, rfl, S108, Hle.refl _, ob111, ob112, ob113⟩
   refine Wv rfl (ov_fieldAddr rfl t_field_56_2) <| Wv rfl (ov_load1 rfl t_agg_45 (OB.cell ob112 (j := 2) rfl)) <| Wv rfl (ov_lenL rfl t_slice_45) <| Wv rfl (ov_gtr rfl rfl) <| Wv rfl (ov_pickF rfl rfl) <| Wv rfl (ov_pickT rfl rfl) <| Wm rfl rfl <| WL.sF 60 HF rfl (fun HF => ?_) (fun HF => ?_)
   ·refine Wp rfl <| Wp rfl <| Wp rfl <| Wp rfl <| Wp rfl <| Wp rfl <| Wp rfl <| Wv rfl (ov_pickT rfl rfl) <| Wm rfl rfl <| Wp rfl <| Wp rfl <| Wp rfl <| Wp rfl <| Wv rfl (ov_pickT rfl rfl) <| WL.nil <| WC.to [0, 2, 4, 7, 74] _ rfl ?_
    exact J145 ⟨h105, true, HF, rfl, S108, Hle.refl _, ob111, ob112, ob113⟩
   refine Wv rfl (ov_fieldAddr rfl t_field_56_0) <| Wv rfl (ov_load1 rfl t_agg_3 (OB.cell ob112 (j := 0) rfl)) <| Wv rfl (ov_eql rfl rfl) <| Wv rfl (ov_fieldAddr rfl t_field_56_5) <| Wv rfl (ov_load1 rfl t_agg_3 (OB.cell ob112 (j := 5) rfl)) <| Wv rfl (ov_neq rfl rfl) <| Wv rfl (ov_neqB rfl rfl t_bool_4) <| Wv rfl (ov_pickF rfl rfl) <| Wm rfl rfl <| WL.sF 69 HF rfl (fun HF => ?_) (fun HF => ?_)
   ·refine Wp rfl <| Wp rfl <| Wp rfl <| Wp rfl <| Wv rfl (ov_pickT rfl rfl) <| WL.nil <| WC.to [0, 2, 4, 7, 74] _ rfl ?_
    exact J145 ⟨h105, true, HF, rfl, S108, Hle.refl _, ob111, ob112, ob113⟩
   refine Wv rfl (ov_fieldAddr rfl t_field_56_5) <| Wv rfl (ov_load1 rfl t_agg_3 (OB.cell ob112 (j := 5) rfl)) ?_
   obtain ⟨r121, hr122, HF⟩ := bind_some HF
   refine Wc rfl (oc_func (vs := [vi x6.n]) rfl t_ent_131) (ok_ast_IsLabel _ hr122 S108.sub) ?_
   rintro _ w124 ⟨h125, s126, rfl⟩
   have S127 := S108.trans0 s126
   refine Wv rfl (ov_not rfl) <| Wv rfl (ov_pickF rfl rfl) <| WL.nil ?_
   have ob146 := (ob111.step0 s126)
   have ob147 := (ob112.step0 s126)
   have ob148 := (ob113.step0 s126)
   refine WC.to [0, 2, 4, 7, 74] _ rfl ?_
   exact J145 ⟨h125, !r121, HF, rfl, S127, s126.le, ob146, ob147, ob148⟩
  refine Wp rfl <| Wp rfl <| Wp rfl <| Wp rfl <| Wp rfl <| Wp rfl <| Wp rfl <| Wp rfl <| Wp rfl <| Wv rfl (ov_pickF rfl rfl) <| Wm rfl rfl <| Wv rfl (ov_fieldAddr rfl t_field_56_0) <| Wv rfl (ov_load1 rfl t_agg_3 (OB.cell ob112 (j := 0) rfl)) <| Wv rfl (ov_eql rfl rfl) <| Wv rfl (ov_fieldAddr rfl t_field_56_5) <| Wv rfl (ov_load1 rfl t_agg_3 (OB.cell ob112 (j := 5) rfl)) <| Wv rfl (ov_neq rfl rfl) <| Wv rfl (ov_neqB rfl rfl t_bool_4) <| Wv rfl (ov_pickF rfl rfl) <| Wm rfl rfl <| WL.sF 69 HF rfl (fun HF => ?_) (fun HF => ?_)
  ·refine Wp rfl <| Wp rfl <| Wp rfl <| Wp rfl <| Wv rfl (ov_pickT rfl rfl) <| WL.nil <| WC.to [0, 2, 4, 7, 74] _ rfl ?_
   exact J145 ⟨h105, true, HF, rfl, S108, Hle.refl _, ob111, ob112, ob113⟩
  refine Wv rfl (ov_fieldAddr rfl t_field_56_5) <| Wv rfl (ov_load1 rfl t_agg_3 (OB.cell ob112 (j := 5) rfl)) ?_
  obtain ⟨r129, hr130, HF⟩ := bind_some HF
  refine Wc rfl (oc_func (vs := [vi x6.n]) rfl t_ent_131) (ok_ast_IsLabel _ hr130 S108.sub) ?_
  rintro _ w132 ⟨h133, s134, rfl⟩
  have S135 := S108.trans0 s134
  refine Wv rfl (ov_not rfl) <| Wv rfl (ov_pickF rfl rfl) <| WL.nil ?_
  have ob149 := (ob111.step0 s134)
  have ob150 := (ob112.step0 s134)
  have ob151 := (ob113.step0 s134)
  refine WC.to [0, 2, 4, 7, 74] _ rfl ?_
  exact J145 ⟨h133, !r129, HF, rfl, S135, s134.le, ob149, ob150, ob151⟩
 intro J358
 refine WC.join (fun E w84 => ∃ (h83 : Hp) (x87 : Bool) (x88 : Int) (x89 : Int), ast_Counter_stmt_j1 k (tie_ast_Counter_arm k) x6 x9 r34 x87 x88 x89 = some r ∧ E = [(0, pt b1 0), (2, vi x9), (4, pt b24 0), (7, pt b38 0), (44, .bool x87)] ∧ Stp [b1] w0 h0 w84 h83 ∧ Hle h0 h83 ∧ OB w84 h83 b1 T2 [vi x88, vi x89] ∧ OB w84 h83 b24 56 [vi x6.op, .string x6.name, v11, v13, v15, vi x6.n, v17, v19, v21, .bool x6.els] ∧ OB w84 h83 b38 155 [.bool ((r34.getD (false, 0, 0, false, false)).1), vi ((r34.getD (false, 0, 0, false, false)).2.1), vi ((r34.getD (false, 0, 0, false, false)).2.2.1), .bool ((r34.getD (false, 0, 0, false, false)).2.2.2.1), .bool ((r34.getD (false, 0, 0, false, false)).2.2.2.2)]) ?_ ?_
 ·rintro E w84 ⟨h83, x87, x88, x89, HF, rfl, S86, le85, ob90, ob91, ob92⟩
  refine WC.cF HF rfl (fun HF => ?_) (fun HF => ?_)
  ·refine WC.seq <| WC.region <| Wa rfl rfl <| WL.nil <| WQ.seqN <| WC.ret <| WQ.thenRet <| WQ.ret1 rfl rfl ?_
   obtain rfl := Option.some.inj HF
   exact ⟨_, rfl, h83, S86, rfl, ob90⟩
  refine WC.skip <| WC.to [0, 2, 4, 7] _ rfl ?_
  exact J358 ⟨h83, x88, x89, HF, rfl, S86, le85, ob90, ob91, ob92⟩
 intro J94
 refine WC.region <| Wm rfl rfl <| Wv rfl (ov_not rfl) <| Wm rfl rfl <| WL.sF 20 HF rfl (fun HF => ?_) (fun HF => ?_)
 ·refine Wp rfl <| Wp rfl <| Wp rfl <| Wp rfl <| Wv rfl (ov_pickT rfl rfl) <| Wm rfl rfl <| Wp rfl <| Wp rfl <| Wp rfl <| Wp rfl <| Wp rfl <| Wp rfl <| Wv rfl (ov_pickT rfl rfl) <| Wm rfl rfl <| Wp rfl <| Wp rfl <| Wp rfl <| Wp rfl <| Wp rfl <| Wp rfl <| Wp rfl <| Wp rfl <| Wp rfl <| Wv rfl (ov_pickT rfl rfl) <| WL.nil ?_
  have ob95 := ((ob36.step0 s40).step1 s47 ne42)
  have ob96 := ((ob27.step0 s40).step1 s47 ne43)
  refine WC.to [0, 2, 4, 7, 44] _ rfl ?_
  exact J94 ⟨h0, true, x3, x4, HF, rfl, S49, Hle.refl _, ob95, ob96, ob48⟩
 refine Wm rfl rfl <| Wm rfl rfl ?_
 have ob51 := ((ob36.step0 s40).step1 s47 ne42)
 obtain ⟨r52, hr53, HF⟩ := bind_some HF
 refine Wc rfl (oc_func (vs := [pt b1 0, vi x9]) rfl t_ent_128) (ok_ast_Counter_Add _ hr53 S49.sub ob51) ?_
 rintro _ w55 ⟨h56, s57, rfl, ob58⟩
 have S59 := S49.trans s57 (in_cons (.inl (by simp)) in_nil)
 refine Wv rfl (ov_not rfl) <| Wv rfl (ov_pickF rfl rfl) <| Wm rfl rfl <| WL.sF 26 HF rfl (fun HF => ?_) (fun HF => ?_)
 ·refine Wp rfl <| Wp rfl <| Wp rfl <| Wp rfl <| Wp rfl <| Wp rfl <| Wv rfl (ov_pickT rfl rfl) <| Wm rfl rfl <| Wp rfl <| Wp rfl <| Wp rfl <| Wp rfl <| Wp rfl <| Wp rfl <| Wp rfl <| Wp rfl <| Wp rfl <| Wv rfl (ov_pickT rfl rfl) <| WL.nil ?_
  have ob97 := (((ob27.step0 s40).step1 s47 ne43).step1 s57 (Ne.symm ne28))
  have ob98 := (ob48.step1 s57 (Ne.symm ne42))
  refine WC.to [0, 2, 4, 7, 44] _ rfl ?_
  exact J94 ⟨h56, true, r52.2.1, r52.2.2, HF, rfl, S59, s57.le, ob58, ob97, ob98⟩
 refine Wv rfl (ov_fieldAddr rfl t_field_56_1) ?_
 have ob61 := (((ob27.step0 s40).step1 s47 ne43).step1 s57 (Ne.symm ne28))
 refine Wv rfl (ov_load1 rfl t_agg_9 (OB.cell ob61 (j := 1) rfl)) <| Wv rfl (ov_fieldAddr rfl t_field_155_0) ?_
 have ob62 := (ob48.step1 s57 (Ne.symm ne42))
 refine Wv rfl (ov_load1 rfl t_agg_4 (OB.cell ob62 (j := 0) rfl)) ?_
 obtain ⟨r63, hr64, HF⟩ := bind_some HF
 refine Wc rfl (oc_func (vs := [.string x6.name, .bool ((r34.getD (false, 0, 0, false, false)).1)]) rfl t_ent_129) (ok_ast_isNamed _ hr64 S59.sub) ?_
 rintro _ w66 ⟨h67, s68, rfl⟩
 have S69 := S59.trans0 s68
 refine Wv rfl (ov_not rfl) <| Wv rfl (ov_pickF rfl rfl) <| Wm rfl rfl <| WL.sF 34 HF rfl (fun HF => ?_) (fun HF => ?_)
 ·refine Wp rfl <| Wp rfl <| Wp rfl <| Wp rfl <| Wp rfl <| Wp rfl <| Wp rfl <| Wp rfl <| Wp rfl <| Wv rfl (ov_pickT rfl rfl) <| WL.nil ?_
  have ob99 := (ob58.step0 s68)
  have ob100 := (ob61.step0 s68)
  have ob101 := (ob62.step0 s68)
  refine WC.to [0, 2, 4, 7, 44] _ rfl ?_
  exact J94 ⟨h67, true, r52.2.1, r52.2.2, HF, rfl, S69, (s57.le).trans s68.le, ob99, ob100, ob101⟩
 refine Wv rfl (ov_fieldAddr rfl t_field_56_4) ?_
 have ob71 := (ob61.step0 s68)
 refine Wv rfl (ov_load1 rfl t_agg_45 (OB.cell ob71 (j := 4) rfl)) ?_
 obtain ⟨A72, c73, rfl, rs74⟩ := RS.form (rs16.mono ((s26.le).trans ((s40.le).trans ((s47.le).trans ((s57.le).trans s68.le)))))
 refine Wv rfl (ov_lenL rfl t_slice_45) <| Wv rfl (ov_fieldAddr rfl t_field_155_1) ?_
 have ob75 := (ob62.step0 s68)
 refine Wv rfl (ov_load1 rfl t_agg_3 (OB.cell ob75 (j := 1) rfl)) <| Wv rfl (ov_fieldAddr rfl t_field_155_2) <| Wv rfl (ov_load1 rfl t_agg_3 (OB.cell ob75 (j := 2) rfl)) ?_
 obtain ⟨r76, hr77, HF⟩ := bind_some HF
 refine Wc rfl (oc_func (vs := [vi (x6.args.length : Int), vi ((r34.getD (false, 0, 0, false, false)).2.1), vi ((r34.getD (false, 0, 0, false, false)).2.2.1)]) rfl t_ent_130) (ok_ast_within _ hr77 S69.sub) ?_
 rintro _ w79 ⟨h80, s81, rfl⟩
 have S82 := S69.trans0 s81
 refine Wv rfl (ov_not rfl) <| Wv rfl (ov_pickF rfl rfl) <| WL.nil ?_
 have ob102 := ((ob58.step0 s68).step0 s81)
 have ob103 := (ob71.step0 s81)
 have ob104 := (ob75.step0 s81)
 refine WC.to [0, 2, 4, 7, 44] _ rfl ?_
 exact J94 ⟨h80, !r76, r52.2.1, r52.2.2, HF, rfl, S82, (s57.le).trans ((s68.le).trans s81.le), ob102, ob103, ob104⟩
theorem all_ast_Counter_arm : ∀ k j, j ≤ k → C_ast_Counter_arm (tie_ast_Counter_arm j).ast_Counter_arm ∧ C_ast_Counter_Text (tie_ast_Counter_arm j).ast_Counter_Text ∧ C_ast_Counter_stmt (tie_ast_Counter_arm j).ast_Counter_stmt := by
  intro k
  induction k with
  | zero =>
    intro j hj
    obtain rfl : j = 0 := by omega
    exact ⟨(fun _ _ _ _ _ _ => by intro h; cases h), (fun _ _ _ _ _ => by intro h; cases h), (fun _ _ _ _ _ => by intro h; cases h)⟩
  | succ k ih =>
    intro j hj
    by_cases h : j ≤ k
    · exact ih j h
    · obtain rfl : j = k + 1 := by omega
      exact ⟨s_ast_Counter_arm k ih, s_ast_Counter_Text k ih, s_ast_Counter_stmt k ih⟩
theorem ok_ast_Counter_arm (k : Nat) : C_ast_Counter_arm (F_ast_Counter_arm k) := (all_ast_Counter_arm k k (Nat.le_refl _)).1
theorem ok_ast_Counter_Text (k : Nat) : C_ast_Counter_Text (F_ast_Counter_Text k) := (all_ast_Counter_arm k k (Nat.le_refl _)).2.1
theorem ok_ast_Counter_stmt (k : Nat) : C_ast_Counter_stmt (F_ast_Counter_stmt k) := (all_ast_Counter_arm k k (Nat.le_refl _)).2.2

def C_syntax_Nodes (φ : (List St) → Option (Int × Int × Int)) : Prop := ∀ ⦃xs1 : List St⦄ ⦃r : Int × Int × Int⦄, φ xs1 = some r → ∀ ⦃w0 : World⦄ ⦃h0 : Hp⦄ ⦃v2 : Value⦄, Sub h0 w0 → RS h0 v2 xs1 →
  Calls Tryz.prog 21 #[v2] w0 fun e w1 => ∃ v, e = .returned v ∧ ∃ h1, Stp [] w0 h0 w1 h1 ∧ (∃ u0 u1 u2 : Value, v = .tuple #[u0, u1, u2] ∧ (u0 = .int .i64 r.1) ∧ (u1 = .int .i64 r.2.1) ∧ (u2 = .int .i64 r.2.2))
theorem s_syntax_Nodes (k : Nat) : C_syntax_Nodes (F_syntax_Nodes k) := by
 intro xs1 r HF w0 h0 v2 hs0 rs3
 have S0 : Stp [] w0 h0 w0 h0 := Stp.refl hs0 _
 refine enter (n := 13) Tryz.func21 rfl Tryz.ntmps21 rfl [(0, v2)] rfl <| WC.seq <| WC.region <| Wa rfl rfl <| Wa rfl rfl <| Wa rfl rfl <| WL.nil <| WQ.seqN <| WC.seq <| WC.region <| WL.alloc (zs := [vi 0, vi 0]) rfl rfl t_zero_87 rfl S0.sub (fun w4 b5 hb6 s7 ob8 => ?_)
 have g9 : w0.heap.size ≤ b5 := by rw [hb6]; exact S0.size
 have S10 := S0.trans0 s7
 refine WL.nil <| WQ.seqN <| WC.join (fun E w21 => ∃ (h20 : Hp) (x24 : Int) (x25 : Int), syntax_Nodes_j1 k x24 x25 = some r ∧ E = [(5, pt b5 0)] ∧ Stp [] w0 h0 w21 h20 ∧ Hle h0 h20 ∧ OB w21 h20 b5 87 [vi x24, vi x25]) ?_ ?_
 ·rintro E w21 ⟨h20, x24, x25, HF, rfl, S23, le22, ob26⟩
  refine WC.seq <| WC.drawn (m := 5) [(5, pt b5 0)] [5] rfl (fun i v w h => match i with | 0 => v = pt b5 0 | 1 => v = vi x24 | 2 => v = pt b5 1 | 3 => v = vi x25 | 4 => v = vi x24 | _ => True) t_mixed S23.sub rfl rfl rfl rfl rfl ?_ ?_ ?_
  ·intro i v w h w2 h2 hΦ hst
   match i, hΦ with
   | 0, hΦ | 1, hΦ | 2, hΦ | 3, hΦ | 4, hΦ => exact hΦ
   | i + 5, _ => exact trivial
  ·refine ⟨?_, ?_, ?_, ?_, ?_, trivial⟩
   ·intro a w27 h28 s29 hat hF
    exact front_val hat rfl (ov_fieldAddr rfl t_field_87_0) s29.sub (by exact rfl)
   ·intro a w27 h28 s29 hat hF
    have ob30 := (ob26.step0 s29)
    exact front_val (At.cons hat (hF 0 9 rfl rfl)) rfl (ov_load1 rfl t_agg_3 (OB.cell ob30 (j := 0) rfl)) s29.sub (by exact rfl)
   ·intro a w27 h28 s29 hat hF
    exact front_val hat rfl (ov_fieldAddr rfl t_field_87_1) s29.sub (by exact rfl)
   ·intro a w27 h28 s29 hat hF
    have ob31 := (ob26.step0 s29)
    exact front_val (At.cons hat (hF 2 11 rfl rfl)) rfl (ov_load1 rfl t_agg_3 (OB.cell ob31 (j := 1) rfl)) s29.sub (by exact rfl)
   intro a w27 h28 s29 hat hF
   exact front_val (At.cons hat (hF 1 10 rfl rfl)) rfl (ov_assign rfl) s29.sub (by exact rfl)
  intro a w27 h28 s29 hat hF
  obtain hv0 := hF 0 9 (by decide) rfl
  obtain hv1 := hF 1 10 (by decide) rfl
  obtain hv2 := hF 2 11 (by decide) rfl
  obtain hv3 := hF 3 12 (by decide) rfl
  obtain hv4 := hF 4 2 (by decide) rfl
  refine WL.at_ [(2, vi x24), (12, vi x25), (11, pt b5 1), (10, vi x24), (9, pt b5 0), (5, pt b5 0)] (At.cons (At.cons (At.cons (At.cons (At.cons hat hv0) hv1) hv2) hv3) hv4) ?_
  have S32 := S23.trans0 s29
  refine Wa rfl rfl <| Wa rfl rfl <| WL.nil <| WQ.seqN <| WC.ret <| WQ.ret3 rfl rfl rfl rfl ?_
  obtain rfl := Option.some.inj HF
  exact ⟨_, rfl, h28, S32, _, _, _, rfl, rfl, rfl, rfl⟩
 intro J33
 refine WC.seq <| WC.region <| Wm rfl rfl ?_
 obtain ⟨r11, hr12, HF⟩ := bind_some HF
 refine Wc rfl (oc_func (vs := [pt b5 0, v2, vi 1]) rfl t_ent_43) (ok_ast_Counter_Text _ hr12 S10.sub (rs3.mono (s7.le)) ob8) ?_
 rintro _ w14 ⟨h15, s16, rfl, ob17⟩
 have S18 := S10.trans s16 (in_cons (.inr g9) in_nil)
 refine Wv rfl (ov_not rfl) <| WL.nil <| WQ.seqN <| WC.cF HF rfl (fun HF => ?_) (fun HF => ?_)
 ·refine WC.seq <| WC.region <| Wa rfl rfl <| Wa rfl rfl <| Wa rfl rfl <| WL.nil <| WQ.seqN <| WC.ret <| WQ.thenRet <| WQ.ret3 rfl rfl rfl rfl ?_
  obtain rfl := Option.some.inj HF
  exact ⟨_, rfl, h15, S18, _, _, _, rfl, rfl, rfl, rfl⟩
 refine WC.skip <| WC.to [5] _ rfl ?_
 exact J33 ⟨h15, r11.2.1, r11.2.2, HF, rfl, S18, s16.le, ob17⟩
theorem ok_syntax_Nodes (k : Nat) : C_syntax_Nodes (F_syntax_Nodes k) := s_syntax_Nodes k

def C_parse_Parser_Now (φ : (List Tok) → Int → Option Tok) : Prop := ∀ ⦃xs3 : List Tok⦄ ⦃x6 : Int⦄ ⦃r : Tok⦄, φ xs3 x6 = some r → ∀ ⦃w0 : World⦄ ⦃h0 : Hp⦄ ⦃b1 : Nat⦄ ⦃T2 : Nat⦄ ⦃v4 : Value⦄, Sub h0 w0 → RS h0 v4 xs3 → OB w0 h0 b1 T2 [v4, .int .i64 x6] →
  Calls Tryz.prog 107 #[.pointer (some ⟨b1, 0, none⟩)] w0 fun e w1 => ∃ v, e = .returned v ∧ ∃ h1, Stp [] w0 h0 w1 h1 ∧ (∃ cs : List Value, v = .agg cs.toArray ∧ Rp.R h1 r cs)
theorem s_parse_Parser_Now (k : Nat) : C_parse_Parser_Now (F_parse_Parser_Now k) := by
 intro xs3 x6 r HF w0 h0 b1 T2 v4 hs0 rs5 ob7
 have S0 : Stp [] w0 h0 w0 h0 := Stp.refl hs0 _
 have lt8 : b1 < w0.heap.size := OB.lt ob7
 refine enter (n := 13) Tryz.func107 rfl Tryz.ntmps107 rfl [(0, pt b1 0)] rfl <| WC.seq <| WC.region <| WL.alloc (zs := [vi 0, .string b'110, vi 0]) rfl rfl t_zero_38 rfl S0.sub (fun w9 b10 hb11 s12 ob13 => ?_)
 have ne14 : b1 ≠ b10 := ob7.ne_new hb11
 have g15 : w0.heap.size ≤ b10 := by rw [hb11]; exact S0.size
 have S16 := S0.trans0 s12
 refine WL.nil <| WQ.seqN <| WC.seq <| WC.drawn (m := 8) [(0, pt b1 0), (2, pt b10 0)] [0, 2] rfl (fun i v w h => match i with | 0 => v = pt b1 0 | 1 => v = pt b1 0 | 2 => v = pt b1 0 | 3 => v = v4 | 4 => v = pt b1 0 | 5 => v = pt b1 0 | 6 => v = pt b1 1 | 7 => v = vi x6 | _ => True) t_mixed S16.sub rfl rfl rfl rfl rfl ?_ ?_ ?_
 ·intro i v w h w2 h2 hΦ hst
  match i, hΦ with
  | 0, hΦ | 1, hΦ | 2, hΦ | 3, hΦ | 4, hΦ | 5, hΦ | 6, hΦ | 7, hΦ => exact hΦ
  | i + 8, _ => exact trivial
 ·refine ⟨?_, ?_, ?_, ?_, ?_, ?_, ?_, ?_, trivial⟩
  ·intro a w17 h18 s19 hat hF
   exact front_val hat rfl (ov_move rfl) s19.sub (by exact rfl)
  ·intro a w17 h18 s19 hat hF
   exact front_val (At.cons hat (hF 0 3 rfl rfl)) rfl (ov_nilCheck rfl) s19.sub (by exact rfl)
  ·intro a w17 h18 s19 hat hF
   exact front_val (At.cons hat (hF 1 4 rfl rfl)) rfl (ov_fieldAddr rfl t_field_140_0) s19.sub (by exact rfl)
  ·intro a w17 h18 s19 hat hF
   have ob20 := ((ob7.step0 s12).step0 s19)
   exact front_val (At.cons hat (hF 2 5 rfl rfl)) rfl (ov_load1 rfl t_agg_34 (OB.cell ob20 (j := 0) rfl)) s19.sub (by exact rfl)
  ·intro a w17 h18 s19 hat hF
   exact front_val hat rfl (ov_move rfl) s19.sub (by exact rfl)
  ·intro a w17 h18 s19 hat hF
   exact front_val (At.cons hat (hF 4 7 rfl rfl)) rfl (ov_nilCheck rfl) s19.sub (by exact rfl)
  ·intro a w17 h18 s19 hat hF
   exact front_val (At.cons hat (hF 5 8 rfl rfl)) rfl (ov_fieldAddr rfl t_field_140_1) s19.sub (by exact rfl)
  intro a w17 h18 s19 hat hF
  have ob21 := ((ob7.step0 s12).step0 s19)
  exact front_val (At.cons hat (hF 6 9 rfl rfl)) rfl (ov_load1 rfl t_agg_3 (OB.cell ob21 (j := 1) rfl)) s19.sub (by exact rfl)
 intro a w17 h18 s19 hat hF
 obtain hv0 := hF 0 3 (by decide) rfl
 obtain hv1 := hF 1 4 (by decide) rfl
 obtain hv2 := hF 2 5 (by decide) rfl
 obtain hv3 := hF 3 6 (by decide) rfl
 obtain hv4 := hF 4 7 (by decide) rfl
 obtain hv5 := hF 5 8 (by decide) rfl
 obtain hv6 := hF 6 9 (by decide) rfl
 obtain hv7 := hF 7 10 (by decide) rfl
 refine WL.at_ [(10, vi x6), (9, pt b1 1), (8, pt b1 0), (7, pt b1 0), (6, v4), (5, pt b1 0), (4, pt b1 0), (3, pt b1 0), (0, pt b1 0), (2, pt b10 0)] (At.cons (At.cons (At.cons (At.cons (At.cons (At.cons (At.cons (At.cons hat hv0) hv1) hv2) hv3) hv4) hv5) hv6) hv7) ?_
 have S22 := S16.trans0 s19
 obtain ⟨A23, c24, rfl, rs25⟩ := RS.form (rs5.mono ((s12.le).trans s19.le))
 obtain ⟨e26, he27, HF⟩ := bind_some HF
 obtain ⟨b28, o29, rfl, h31, h32, ra30⟩ := RS.atO rs25 he27
 obtain ⟨cs33, r34, hc35⟩ := ra30
 refine Wv rfl (ov_indexAddr rfl rfl t_slice_34 t_size_38 h31 h32) <| Wv rfl (ov_loadN (cs := cs33) rfl t_agg_38 (by rw [Rp.len r34]; exact t_size_38) (fun j v hv => S22.sub.at_ _ _ _ (hc35 j v hv))) ?_
 have ob36 := (ob13.step0 s19)
 obtain rfl := rp_Tok.1 r34
 refine WL.store (vs := [vi e26.kind, .string e26.text, vi e26.pos]) rfl rfl rfl rfl t_size_38 (one_cons rfl (one_cons rfl (one_cons rfl one_nil))) ob36 S22.sub (by simp) (ds := [vi e26.kind, .string e26.text, vi e26.pos]) rfl (fun w37 s38 ob39 => ?_)
 have S40 := S22.trans1 s38 (.inr g15)
 refine WL.nil <| WQ.seqN <| WC.ret <| WQ.retC1 rfl rfl (run_loadVarN (cs := [vi e26.kind, .string e26.text, vi e26.pos]) t_agg_38 t_size_38 (OB.cells ob39 0 rfl)) ?_
 obtain rfl := Option.some.inj HF
 exact ⟨_, rfl, h18, S40, ⟨_, rfl, (rp_Tok.2 rfl)⟩⟩
theorem ok_parse_Parser_Now (k : Nat) : C_parse_Parser_Now (F_parse_Parser_Now k) := s_parse_Parser_Now k

def C_parse_Parser_Fail (φ : (List Tok) → Int → Option (Except (Int × Int) Unit)) : Prop := ∀ ⦃xs3 : List Tok⦄ ⦃x6 : Int⦄ ⦃r : Except (Int × Int) Unit⦄, φ xs3 x6 = some r → ∀ ⦃w0 : World⦄ ⦃h0 : Hp⦄ ⦃b1 : Nat⦄ ⦃T2 : Nat⦄ ⦃v4 : Value⦄, Sub h0 w0 → RS h0 v4 xs3 → OB w0 h0 b1 T2 [v4, .int .i64 x6] →
  Calls Tryz.prog 111 #[.pointer (some ⟨b1, 0, none⟩)] w0 fun e w1 => match r with | .ok r => ∃ v, e = .returned v ∧ ∃ h1, Stp [] w0 h0 w1 h1 ∧ v = .tuple #[] | .error t => ∃ ch, e = .panicked ch ∧ Trouble 138 t.1 t.2 ch ∧ ∃ h1, Stp [] w0 h0 w1 h1
theorem s_parse_Parser_Fail (k : Nat) : C_parse_Parser_Fail (F_parse_Parser_Fail k) := by
 intro xs3 x6 r HF w0 h0 b1 T2 v4 hs0 rs5 ob7
 have S0 : Stp [] w0 h0 w0 h0 := Stp.refl hs0 _
 have lt8 : b1 < w0.heap.size := OB.lt ob7
 refine enter (n := 7) Tryz.func111 rfl Tryz.ntmps111 rfl [(0, pt b1 0)] rfl <| WC.region <| Wm rfl rfl ?_
 obtain ⟨r9, hr10, HF⟩ := bind_some HF
 refine Wc rfl (oc_func (vs := [pt b1 0]) rfl t_ent_107) (ok_parse_Parser_Now _ hr10 S0.sub rs5 ob7) ?_
 rintro _ w12 ⟨h13, s14, ⟨cs15, rfl, r16⟩⟩
 have S17 := S0.trans0 s14
 obtain rfl := rp_Tok.1 r16
 refine Wv rfl (ov_field1 rfl t_fld_38_2 t_agg_3 rfl) <| Wv rfl (ov_buildP (vs := [(0, vi 4), (1, vi r9.pos)]) (cs := [vi 4, vi r9.pos]) rfl t_places_138 t_zero_138 rfl) <| Wv rfl (ov_makeIface rfl t_conc_138) <| WL.panicI rfl rfl <| WQ.panicOut ?_
 obtain rfl := Option.some.inj HF
 exact ⟨_, rfl, rfl, h13, S17⟩
theorem ok_parse_Parser_Fail (k : Nat) : C_parse_Parser_Fail (F_parse_Parser_Fail k) := s_parse_Parser_Fail k

def C_parse_Parser_Take (φ : (List Tok) → Int → Int → Option (Except (Int × Int × Int) (ByteArray × Int))) : Prop := ∀ ⦃xs3 : List Tok⦄ ⦃x6 : Int⦄ ⦃x8 : Int⦄ ⦃r : Except (Int × Int × Int) (ByteArray × Int)⦄, φ xs3 x6 x8 = some r → ∀ ⦃w0 : World⦄ ⦃h0 : Hp⦄ ⦃b1 : Nat⦄ ⦃T2 : Nat⦄ ⦃v4 : Value⦄, Sub h0 w0 → RS h0 v4 xs3 → OB w0 h0 b1 T2 [v4, .int .i64 x6] →
  Calls Tryz.prog 99 #[.pointer (some ⟨b1, 0, none⟩), .int .i64 x8] w0 fun e w1 => match r with | .ok r => ∃ v, e = .returned v ∧ ∃ h1, Stp [b1] w0 h0 w1 h1 ∧ v = .string r.1 ∧ (OB w1 h1 b1 T2 [v4, .int .i64 r.2]) | .error t => ∃ ch, e = .panicked ch ∧ Trouble 138 t.1 t.2.1 ch ∧ ∃ h1, Stp [b1] w0 h0 w1 h1 ∧ (OB w1 h1 b1 T2 [v4, .int .i64 t.2.2])
theorem s_parse_Parser_Take (k : Nat) : C_parse_Parser_Take (F_parse_Parser_Take k) := by
 intro xs3 x6 x8 r HF w0 h0 b1 T2 v4 hs0 rs5 ob7
 have S0 : Stp [b1] w0 h0 w0 h0 := Stp.refl hs0 _
 have lt9 : b1 < w0.heap.size := OB.lt ob7
 refine enter (n := 31) Tryz.func99 rfl Tryz.ntmps99 rfl [(0, pt b1 0), (1, vi x8)] rfl <| WC.seq <| WC.region <| Wa rfl rfl <| WL.nil <| WQ.seqN <| WC.seq <| WC.region <| Wm rfl rfl ?_
 obtain ⟨r10, hr11, HF⟩ := bind_some HF
 refine Wc rfl (oc_func (vs := [pt b1 0]) rfl t_ent_107) (ok_parse_Parser_Now _ hr11 S0.sub rs5 ob7) ?_
 rintro _ w13 ⟨h14, s15, ⟨cs16, rfl, r17⟩⟩
 have S18 := S0.trans0 s15
 have ob19 := (ob7.step0 s15)
 refine WL.alloc (zs := [vi 0, .string b'110, vi 0]) rfl rfl t_zero_38 rfl S18.sub (fun w20 b21 hb22 s23 ob24 => ?_)
 have ne25 : b1 ≠ b21 := ob19.ne_new hb22
 have g26 : w0.heap.size ≤ b21 := by rw [hb22]; exact S18.size
 have S27 := S18.trans0 s23
 obtain rfl := rp_Tok.1 (Rp.mono (s23.le) r17)
 refine WL.store (vs := [vi r10.kind, .string r10.text, vi r10.pos]) rfl rfl rfl rfl t_size_38 (one_cons rfl (one_cons rfl (one_cons rfl one_nil))) ob24 S27.sub (by simp) (ds := [vi r10.kind, .string r10.text, vi r10.pos]) rfl (fun w28 s29 ob30 => ?_)
 have S31 := S27.trans1 s29 (.inr g26)
 refine WL.nil <| WQ.seqN <| WC.join (fun E w51 => ∃ (h50 : Hp), parse_Parser_Take_j1 k xs3 x6 r10 = some r ∧ E = [(0, pt b1 0), (5, pt b21 0)] ∧ Stp [b1] w0 h0 w51 h50 ∧ Hle h14 h50 ∧ OB w51 h50 b1 T2 [v4, vi x6] ∧ OB w51 h50 b21 38 [vi r10.kind, .string r10.text, vi r10.pos]) ?_ ?_
 ·rintro E w51 ⟨h50, HF, rfl, S53, le52, ob54, ob55⟩
  refine WC.seq ?_
  obtain ⟨A56, c57, rfl, rs58⟩ := RS.form (rs5.mono ((s15.le).trans ((s23.le).trans ((s29.le).trans le52))))
  refine WC.drawn (m := 13) [(0, pt b1 0), (5, pt b21 0)] [0, 5] rfl (fun i v w h => match i with | 0 => v = pt b1 0 | 1 => v = pt b1 0 | 2 => v = pt b1 0 | 3 => v = pt b1 1 | 4 => v = vi x6 | 5 => v = vi (IntKind.i64.wrap (x6 + 1)) | 6 => v = pt b1 0 | 7 => v = pt b1 0 | 8 => v = pt b1 0 | 9 => v = .slice A56 (xs3).length c57 | 10 => v = vi (xs3.length : Int) | 11 => v = vi (IntKind.i64.wrap ((xs3.length : Int) - 1)) | 12 => v = vi (imin (IntKind.i64.wrap (x6 + 1)) (IntKind.i64.wrap ((xs3.length : Int) - 1))) | _ => True) t_mixed S53.sub rfl rfl rfl rfl rfl ?_ ?_ ?_
  ·intro i v w h w2 h2 hΦ hst
   match i, hΦ with
   | 0, hΦ | 1, hΦ | 2, hΦ | 3, hΦ | 4, hΦ | 5, hΦ | 6, hΦ | 7, hΦ | 8, hΦ | 9, hΦ | 10, hΦ | 11, hΦ | 12, hΦ => exact hΦ
   | i + 13, _ => exact trivial
  ·refine ⟨?_, ?_, ?_, ?_, ?_, ?_, ?_, ?_, ?_, ?_, ?_, ?_, ?_, trivial⟩
   ·intro a w59 h60 s61 hat hF
    exact front_val hat rfl (ov_move rfl) s61.sub (by exact rfl)
   ·intro a w59 h60 s61 hat hF
    exact front_val hat rfl (ov_move rfl) s61.sub (by exact rfl)
   ·intro a w59 h60 s61 hat hF
    exact front_val (At.cons hat (hF 1 15 rfl rfl)) rfl (ov_nilCheck rfl) s61.sub (by exact rfl)
   ·intro a w59 h60 s61 hat hF
    exact front_val (At.cons hat (hF 2 16 rfl rfl)) rfl (ov_fieldAddr rfl t_field_140_1) s61.sub (by exact rfl)
   ·intro a w59 h60 s61 hat hF
    have ob62 := (ob54.step0 s61)
    exact front_val (At.cons hat (hF 3 17 rfl rfl)) rfl (ov_load1 rfl t_agg_3 (OB.cell ob62 (j := 1) rfl)) s61.sub (by exact rfl)
   ·intro a w59 h60 s61 hat hF
    exact front_val (At.cons hat (hF 4 18 rfl rfl)) rfl (ov_add rfl rfl) s61.sub (by exact rfl)
   ·intro a w59 h60 s61 hat hF
    exact front_val hat rfl (ov_move rfl) s61.sub (by exact rfl)
   ·intro a w59 h60 s61 hat hF
    exact front_val (At.cons hat (hF 6 20 rfl rfl)) rfl (ov_nilCheck rfl) s61.sub (by exact rfl)
   ·intro a w59 h60 s61 hat hF
    exact front_val (At.cons hat (hF 7 21 rfl rfl)) rfl (ov_fieldAddr rfl t_field_140_0) s61.sub (by exact rfl)
   ·intro a w59 h60 s61 hat hF
    have ob63 := (ob54.step0 s61)
    exact front_val (At.cons hat (hF 8 22 rfl rfl)) rfl (ov_load1 rfl t_agg_34 (OB.cell ob63 (j := 0) rfl)) s61.sub (by exact rfl)
   ·intro a w59 h60 s61 hat hF
    exact front_val (At.cons hat (hF 9 23 rfl rfl)) rfl (ov_lenL rfl t_slice_34) s61.sub (by exact rfl)
   ·intro a w59 h60 s61 hat hF
    exact front_val (At.cons hat (hF 10 24 rfl rfl)) rfl (ov_sub rfl rfl) s61.sub (by exact rfl)
   intro a w59 h60 s61 hat hF
   exact front_val (At.cons (At.cons hat (hF 5 19 rfl rfl)) (hF 11 25 rfl rfl)) rfl (ov_min rfl rfl) s61.sub (by exact rfl)
  intro a w59 h60 s61 hat hF
  obtain hv0 := hF 0 14 (by decide) rfl
  obtain hv1 := hF 1 15 (by decide) rfl
  obtain hv2 := hF 2 16 (by decide) rfl
  obtain hv3 := hF 3 17 (by decide) rfl
  obtain hv4 := hF 4 18 (by decide) rfl
  obtain hv5 := hF 5 19 (by decide) rfl
  obtain hv6 := hF 6 20 (by decide) rfl
  obtain hv7 := hF 7 21 (by decide) rfl
  obtain hv8 := hF 8 22 (by decide) rfl
  obtain hv9 := hF 9 23 (by decide) rfl
  obtain hv10 := hF 10 24 (by decide) rfl
  obtain hv11 := hF 11 25 (by decide) rfl
  obtain hv12 := hF 12 26 (by decide) rfl
  refine WL.at_ [(26, vi (imin (IntKind.i64.wrap (x6 + 1)) (IntKind.i64.wrap ((xs3.length : Int) - 1)))), (25, vi (IntKind.i64.wrap ((xs3.length : Int) - 1))), (24, vi (xs3.length : Int)), (23, .slice A56 (xs3).length c57), (22, pt b1 0), (21, pt b1 0), (20, pt b1 0), (19, vi (IntKind.i64.wrap (x6 + 1))), (18, vi x6), (17, pt b1 1), (16, pt b1 0), (15, pt b1 0), (14, pt b1 0), (0, pt b1 0), (5, pt b21 0)] (At.cons (At.cons (At.cons (At.cons (At.cons (At.cons (At.cons (At.cons (At.cons (At.cons (At.cons (At.cons (At.cons hat hv0) hv1) hv2) hv3) hv4) hv5) hv6) hv7) hv8) hv9) hv10) hv11) hv12) ?_
  have S64 := S53.trans0 s61
  refine Wv rfl (ov_nilCheck rfl) <| Wv rfl (ov_fieldAddr rfl t_field_140_1) ?_
  have ob65 := (ob54.step0 s61)
  refine WL.store (vs := [vi (imin (IntKind.i64.wrap (x6 + 1)) (IntKind.i64.wrap ((xs3.length : Int) - 1)))]) rfl rfl rfl rfl t_size_3 (one_cons rfl one_nil) ob65 S64.sub (by simp) (ds := [.slice A56 (xs3).length c57, vi (imin (IntKind.i64.wrap (x6 + 1)) (IntKind.i64.wrap ((xs3.length : Int) - 1)))]) rfl (fun w66 s67 ob68 => ?_)
  have S69 := S64.trans1 s67 (.inl (by simp))
  refine WL.nil <| WQ.seqN <| WC.seq <| WC.region <| Wv rfl (ov_fieldAddr rfl t_field_38_1) ?_
  have ob70 := ((ob55.step0 s61).step1 s67 (Ne.symm ne25))
  refine Wv rfl (ov_load1 rfl t_agg_9 (OB.cell ob70 (j := 1) rfl)) <| Wa rfl rfl <| WL.nil <| WQ.seqN <| WC.ret <| WQ.ret1 rfl rfl ?_
  obtain rfl := Option.some.inj HF
  exact ⟨_, rfl, h60, S69, rfl, ob68⟩
 intro J71
 refine WC.seq <| WC.region <| Wv rfl (ov_fieldAddr rfl t_field_38_0) <| Wv rfl (ov_load1 rfl t_agg_3 (OB.cell ob30 (j := 0) rfl)) <| Wm rfl rfl <| Wv rfl (ov_neq rfl rfl) <| WL.nil <| WQ.seqN <| WC.cF HF rfl (fun HF => ?_) (fun HF => ?_)
 ·refine WC.region <| Wm rfl rfl ?_
  have ob33 := ((ob19.step0 s23).step1 s29 ne25)
  obtain ⟨r34, hr35, HF⟩ := bind_some HF
  rcases r34 with t36 | r37
  ·obtain rfl := thenE_err HF
   refine WL.callE rfl (oc_func (vs := [pt b1 0]) rfl t_ent_111) (ok_parse_Parser_Fail _ hr35 S31.sub (rs5.mono ((s15.le).trans ((s23.le).trans s29.le))) ob33) ?_
   rintro ch42 w43 ⟨ht44, h45, s46⟩
   refine WQ.thenPanic <| WQ.panicOut ?_
   have S47 := S31.trans0 s46
   have ob48 := (ob33.step0 s46)
   exact ⟨_, rfl, ht44, h45, S47, ob48⟩
  replace HF := thenE_ok HF
  refine Wc rfl (oc_func (vs := [pt b1 0]) rfl t_ent_111) (ok_parse_Parser_Fail _ hr35 S31.sub (rs5.mono ((s15.le).trans ((s23.le).trans s29.le))) ob33) ?_
  rintro v38 w39 ⟨h40, s41, rfl⟩
  have S49 := S31.trans0 s41
  refine WL.nil ?_
  have ob72 := (ob33.step0 s41)
  have ob73 := (ob30.step0 s41)
  refine WC.to [0, 5] _ rfl ?_
  exact J71 ⟨h40, HF, rfl, S49, s41.le, ob72, ob73⟩
 refine WC.skip ?_
 have ob74 := ((ob19.step0 s23).step1 s29 ne25)
 refine WC.to [0, 5] _ rfl ?_
 exact J71 ⟨h14, HF, rfl, S31, Hle.refl _, ob74, ob30⟩
theorem ok_parse_Parser_Take (k : Nat) : C_parse_Parser_Take (F_parse_Parser_Take k) := s_parse_Parser_Take k

def C_parse_Source_1_panic (φ : Int → Int → Int → Int → Option (Int × Int)) : Prop := ∀ ⦃x3 : Int⦄ ⦃x7 : Int⦄ ⦃x9 : Int⦄ ⦃x10 : Int⦄ ⦃r : Int × Int⦄, φ x3 x7 x9 x10 = some r → ∀ ⦃w0 : World⦄ ⦃h0 : Hp⦄ ⦃b1 : Nat⦄ ⦃T2 : Nat⦄ ⦃b5 : Nat⦄ ⦃T6 : Nat⦄, Sub h0 w0 → OB w0 h0 b1 T2 [.int .i64 x3] → OB w0 h0 b5 T6 [.int .i64 x7] → b1 ≠ b5 →
  CallsD Tryz.prog 98 #[.pointer (some ⟨b1, 0, none⟩), .pointer (some ⟨b5, 0, none⟩)] (.panicking [{ v := .iface 138 (.agg #[.int .i64 x9, .int .i64 x10]), recovered := false }]) w0 fun e u w1 => u = .panicking [{ v := .iface 138 (.agg #[.int .i64 x9, .int .i64 x10]), recovered := true }] ∧ ∃ v, e = .returned v ∧ ∃ h1, Stp [b1, b5] w0 h0 w1 h1 ∧ v = .tuple #[] ∧ (OB w1 h1 b1 T2 [.int .i64 r.1]) ∧ (OB w1 h1 b5 T6 [.int .i64 r.2])
theorem s_parse_Source_1_panic (k : Nat) : C_parse_Source_1_panic (F_parse_Source_1_panic k) := by
 intro x3 x7 x9 x10 r HF w0 h0 b1 T2 b5 T6 hs0 ob4 ob8 ne11
 have S0 : Stp [b1, b5] w0 h0 w0 h0 := Stp.refl hs0 _
 have lt12 : b1 < w0.heap.size := OB.lt ob4
 have lt13 : b5 < w0.heap.size := OB.lt ob8
 refine enterR (n := 15) (dd := 5) (x := .iface 138 (.agg #[vi x9, vi x10])) (.inr ⟨_, rfl, rfl, rfl⟩) Tryz.func98 rfl Tryz.ntmps98 rfl rfl [(5, .iface 138 (.agg #[vi x9, vi x10])), (0, pt b1 0), (1, pt b5 0)] rfl <| WC.block <| WC.seq <| WC.region <| Wv rfl (ov_eqlHN rfl t_imeth_20) <| WL.nil <| WQ.seqN <| WC.condF rfl <| WC.seq <| WC.region <| Wv rfl (ov_assertT rfl t_conc_138) <| Wv rfl (ov_extract rfl rfl) <| Wv rfl (ov_extract rfl rfl) <| WL.nil <| WQ.seqN <| WC.condT rfl <| WC.seq <| WC.region <| WL.alloc (zs := [vi 0, vi 0]) rfl rfl t_zero_138 rfl S0.sub (fun w14 b15 hb16 s17 ob18 => ?_)
 have ne19 : b1 ≠ b15 := ob4.ne_new hb16
 have ne20 : b5 ≠ b15 := ob8.ne_new hb16
 have g21 : w0.heap.size ≤ b15 := by rw [hb16]; exact S0.size
 have S22 := S0.trans0 s17
 refine WL.store (vs := [vi x9, vi x10]) rfl rfl rfl rfl t_size_138 (one_cons rfl (one_cons rfl one_nil)) ob18 S22.sub (by simp) (ds := [vi x9, vi x10]) rfl (fun w23 s24 ob25 => ?_)
 have S26 := S22.trans1 s24 (.inr g21)
 refine WL.nil <| WQ.seqN <| WC.drawnA t_mixed S26.sub (fun w27 s28 => ?_)
 have S29 := S26.trans0 s28
 refine WA.two (i := 0) (j := 2) (by kernel_rfl) rfl rfl ?_ ?_
 ·skip
  refine Wv rfl (ov_fieldAddr rfl t_field_138_1) <| WL.nil <| WQ.anyN <| WA.two (i := 1) (j := 2) (by kernel_rfl) rfl rfl ?_ ?_
  ·skip
   have ob30 := (ob25.step0 s28)
   refine Wv rfl (ov_load1 rfl t_agg_3 (OB.cell ob30 (j := 1) rfl)) <| WL.nil <| WQ.anyN <| WA.two (i := 2) (j := 4) (by kernel_rfl) rfl rfl ?_ ?_
   ·skip
    refine Wv rfl (ov_fieldAddr rfl t_field_138_0) <| WL.nil <| WQ.anyN <| WA.two (i := 3) (j := 4) (by kernel_rfl) rfl rfl ?_ ?_
    ·skip
     refine Wv rfl (ov_load1 rfl t_agg_23 (OB.cell ob30 (j := 0) rfl)) <| WL.nil <| WQ.anyN <| WA.one (i := 4) (by kernel_rfl) rfl ?_
     have ob31 := (((ob4.step0 s17).step1 s24 ne19).step0 s28)
     refine WL.store (vs := [vi x10]) rfl rfl rfl rfl t_size_3 (one_cons rfl one_nil) ob31 S29.sub (by simp) (ds := [vi x10]) rfl (fun w32 s33 ob34 => ?_)
     have S35 := S29.trans1 s33 (.inl (by simp))
     refine WL.nil <| WQ.anyN <| WA.one (i := 5) (by kernel_rfl) rfl ?_
     have ob36 := ((((ob8.step0 s17).step1 s24 ne20).step0 s28).step1 s33 (Ne.symm ne11))
     refine WL.store (vs := [vi x9]) rfl rfl rfl rfl t_size_23 (one_cons rfl one_nil) ob36 S35.sub (by simp) (ds := [vi x9]) rfl (fun w37 s38 ob39 => ?_)
     have S40 := S35.trans1 s38 (.inl (by simp))
     refine WL.nil <| WQ.anyN <| WA.fin (by kernel_rfl) <| WQ.blockN ?_
     have ob41 := (ob34.step1 s38 ne11)
     refine WQ.end0 rfl ?_
     obtain rfl := Option.some.inj HF
     exact ⟨_, rfl, h0, S40, rfl, ob41, ob39⟩
    skip
    have ob42 := (((ob4.step0 s17).step1 s24 ne19).step0 s28)
    refine WL.store (vs := [vi x10]) rfl rfl rfl rfl t_size_3 (one_cons rfl one_nil) ob42 S29.sub (by simp) (ds := [vi x10]) rfl (fun w43 s44 ob45 => ?_)
    have S46 := S29.trans1 s44 (.inl (by simp))
    refine WL.nil <| WQ.anyN <| WA.one (i := 3) (by kernel_rfl) rfl ?_
    have ob47 := (ob30.step1 s44 (Ne.symm ne19))
    refine Wv rfl (ov_load1 rfl t_agg_23 (OB.cell ob47 (j := 0) rfl)) <| WL.nil <| WQ.anyN <| WA.one (i := 5) (by kernel_rfl) rfl ?_
    have ob48 := ((((ob8.step0 s17).step1 s24 ne20).step0 s28).step1 s44 (Ne.symm ne11))
    refine WL.store (vs := [vi x9]) rfl rfl rfl rfl t_size_23 (one_cons rfl one_nil) ob48 S46.sub (by simp) (ds := [vi x9]) rfl (fun w49 s50 ob51 => ?_)
    have S52 := S46.trans1 s50 (.inl (by simp))
    refine WL.nil <| WQ.anyN <| WA.fin (by kernel_rfl) <| WQ.blockN ?_
    have ob53 := (ob45.step1 s50 ne11)
    refine WQ.end0 rfl ?_
    obtain rfl := Option.some.inj HF
    exact ⟨_, rfl, h0, S52, rfl, ob53, ob51⟩
   skip
   have ob54 := (((ob4.step0 s17).step1 s24 ne19).step0 s28)
   refine WL.store (vs := [vi x10]) rfl rfl rfl rfl t_size_3 (one_cons rfl one_nil) ob54 S29.sub (by simp) (ds := [vi x10]) rfl (fun w55 s56 ob57 => ?_)
   have S58 := S29.trans1 s56 (.inl (by simp))
   refine WL.nil <| WQ.anyN <| WA.one (i := 2) (by kernel_rfl) rfl <| Wv rfl (ov_fieldAddr rfl t_field_138_0) <| WL.nil <| WQ.anyN <| WA.one (i := 3) (by kernel_rfl) rfl ?_
   have ob59 := (ob30.step1 s56 (Ne.symm ne19))
   refine Wv rfl (ov_load1 rfl t_agg_23 (OB.cell ob59 (j := 0) rfl)) <| WL.nil <| WQ.anyN <| WA.one (i := 5) (by kernel_rfl) rfl ?_
   have ob60 := ((((ob8.step0 s17).step1 s24 ne20).step0 s28).step1 s56 (Ne.symm ne11))
   refine WL.store (vs := [vi x9]) rfl rfl rfl rfl t_size_23 (one_cons rfl one_nil) ob60 S58.sub (by simp) (ds := [vi x9]) rfl (fun w61 s62 ob63 => ?_)
   have S64 := S58.trans1 s62 (.inl (by simp))
   refine WL.nil <| WQ.anyN <| WA.fin (by kernel_rfl) <| WQ.blockN ?_
   have ob65 := (ob57.step1 s62 ne11)
   refine WQ.end0 rfl ?_
   obtain rfl := Option.some.inj HF
   exact ⟨_, rfl, h0, S64, rfl, ob65, ob63⟩
  skip
  refine Wv rfl (ov_fieldAddr rfl t_field_138_0) <| WL.nil <| WQ.anyN <| WA.two (i := 1) (j := 3) (by kernel_rfl) rfl rfl ?_ ?_
  ·skip
   have ob66 := (ob25.step0 s28)
   refine Wv rfl (ov_load1 rfl t_agg_3 (OB.cell ob66 (j := 1) rfl)) <| WL.nil <| WQ.anyN <| WA.two (i := 3) (j := 4) (by kernel_rfl) rfl rfl ?_ ?_
   ·skip
    refine Wv rfl (ov_load1 rfl t_agg_23 (OB.cell ob66 (j := 0) rfl)) <| WL.nil <| WQ.anyN <| WA.one (i := 4) (by kernel_rfl) rfl ?_
    have ob67 := (((ob4.step0 s17).step1 s24 ne19).step0 s28)
    refine WL.store (vs := [vi x10]) rfl rfl rfl rfl t_size_3 (one_cons rfl one_nil) ob67 S29.sub (by simp) (ds := [vi x10]) rfl (fun w68 s69 ob70 => ?_)
    have S71 := S29.trans1 s69 (.inl (by simp))
    refine WL.nil <| WQ.anyN <| WA.one (i := 5) (by kernel_rfl) rfl ?_
    have ob72 := ((((ob8.step0 s17).step1 s24 ne20).step0 s28).step1 s69 (Ne.symm ne11))
    refine WL.store (vs := [vi x9]) rfl rfl rfl rfl t_size_23 (one_cons rfl one_nil) ob72 S71.sub (by simp) (ds := [vi x9]) rfl (fun w73 s74 ob75 => ?_)
    have S76 := S71.trans1 s74 (.inl (by simp))
    refine WL.nil <| WQ.anyN <| WA.fin (by kernel_rfl) <| WQ.blockN ?_
    have ob77 := (ob70.step1 s74 ne11)
    refine WQ.end0 rfl ?_
    obtain rfl := Option.some.inj HF
    exact ⟨_, rfl, h0, S76, rfl, ob77, ob75⟩
   skip
   have ob78 := (((ob4.step0 s17).step1 s24 ne19).step0 s28)
   refine WL.store (vs := [vi x10]) rfl rfl rfl rfl t_size_3 (one_cons rfl one_nil) ob78 S29.sub (by simp) (ds := [vi x10]) rfl (fun w79 s80 ob81 => ?_)
   have S82 := S29.trans1 s80 (.inl (by simp))
   refine WL.nil <| WQ.anyN <| WA.one (i := 3) (by kernel_rfl) rfl ?_
   have ob83 := (ob66.step1 s80 (Ne.symm ne19))
   refine Wv rfl (ov_load1 rfl t_agg_23 (OB.cell ob83 (j := 0) rfl)) <| WL.nil <| WQ.anyN <| WA.one (i := 5) (by kernel_rfl) rfl ?_
   have ob84 := ((((ob8.step0 s17).step1 s24 ne20).step0 s28).step1 s80 (Ne.symm ne11))
   refine WL.store (vs := [vi x9]) rfl rfl rfl rfl t_size_23 (one_cons rfl one_nil) ob84 S82.sub (by simp) (ds := [vi x9]) rfl (fun w85 s86 ob87 => ?_)
   have S88 := S82.trans1 s86 (.inl (by simp))
   refine WL.nil <| WQ.anyN <| WA.fin (by kernel_rfl) <| WQ.blockN ?_
   have ob89 := (ob81.step1 s86 ne11)
   refine WQ.end0 rfl ?_
   obtain rfl := Option.some.inj HF
   exact ⟨_, rfl, h0, S88, rfl, ob89, ob87⟩
  skip
  have ob90 := (ob25.step0 s28)
  refine Wv rfl (ov_load1 rfl t_agg_23 (OB.cell ob90 (j := 0) rfl)) <| WL.nil <| WQ.anyN <| WA.one (i := 1) (by kernel_rfl) rfl <| Wv rfl (ov_load1 rfl t_agg_3 (OB.cell ob90 (j := 1) rfl)) <| WL.nil <| WQ.anyN <| WA.one (i := 4) (by kernel_rfl) rfl ?_
  have ob91 := (((ob4.step0 s17).step1 s24 ne19).step0 s28)
  refine WL.store (vs := [vi x10]) rfl rfl rfl rfl t_size_3 (one_cons rfl one_nil) ob91 S29.sub (by simp) (ds := [vi x10]) rfl (fun w92 s93 ob94 => ?_)
  have S95 := S29.trans1 s93 (.inl (by simp))
  refine WL.nil <| WQ.anyN <| WA.one (i := 5) (by kernel_rfl) rfl ?_
  have ob96 := ((((ob8.step0 s17).step1 s24 ne20).step0 s28).step1 s93 (Ne.symm ne11))
  refine WL.store (vs := [vi x9]) rfl rfl rfl rfl t_size_23 (one_cons rfl one_nil) ob96 S95.sub (by simp) (ds := [vi x9]) rfl (fun w97 s98 ob99 => ?_)
  have S100 := S95.trans1 s98 (.inl (by simp))
  refine WL.nil <| WQ.anyN <| WA.fin (by kernel_rfl) <| WQ.blockN ?_
  have ob101 := (ob94.step1 s98 ne11)
  refine WQ.end0 rfl ?_
  obtain rfl := Option.some.inj HF
  exact ⟨_, rfl, h0, S100, rfl, ob101, ob99⟩
 skip
 refine Wv rfl (ov_fieldAddr rfl t_field_138_0) <| WL.nil <| WQ.anyN <| WA.two (i := 0) (j := 3) (by kernel_rfl) rfl rfl ?_ ?_
 ·skip
  refine Wv rfl (ov_fieldAddr rfl t_field_138_1) <| WL.nil <| WQ.anyN <| WA.two (i := 1) (j := 3) (by kernel_rfl) rfl rfl ?_ ?_
  ·skip
   have ob102 := (ob25.step0 s28)
   refine Wv rfl (ov_load1 rfl t_agg_3 (OB.cell ob102 (j := 1) rfl)) <| WL.nil <| WQ.anyN <| WA.two (i := 3) (j := 4) (by kernel_rfl) rfl rfl ?_ ?_
   ·skip
    refine Wv rfl (ov_load1 rfl t_agg_23 (OB.cell ob102 (j := 0) rfl)) <| WL.nil <| WQ.anyN <| WA.one (i := 4) (by kernel_rfl) rfl ?_
    have ob103 := (((ob4.step0 s17).step1 s24 ne19).step0 s28)
    refine WL.store (vs := [vi x10]) rfl rfl rfl rfl t_size_3 (one_cons rfl one_nil) ob103 S29.sub (by simp) (ds := [vi x10]) rfl (fun w104 s105 ob106 => ?_)
    have S107 := S29.trans1 s105 (.inl (by simp))
    refine WL.nil <| WQ.anyN <| WA.one (i := 5) (by kernel_rfl) rfl ?_
    have ob108 := ((((ob8.step0 s17).step1 s24 ne20).step0 s28).step1 s105 (Ne.symm ne11))
    refine WL.store (vs := [vi x9]) rfl rfl rfl rfl t_size_23 (one_cons rfl one_nil) ob108 S107.sub (by simp) (ds := [vi x9]) rfl (fun w109 s110 ob111 => ?_)
    have S112 := S107.trans1 s110 (.inl (by simp))
    refine WL.nil <| WQ.anyN <| WA.fin (by kernel_rfl) <| WQ.blockN ?_
    have ob113 := (ob106.step1 s110 ne11)
    refine WQ.end0 rfl ?_
    obtain rfl := Option.some.inj HF
    exact ⟨_, rfl, h0, S112, rfl, ob113, ob111⟩
   skip
   have ob114 := (((ob4.step0 s17).step1 s24 ne19).step0 s28)
   refine WL.store (vs := [vi x10]) rfl rfl rfl rfl t_size_3 (one_cons rfl one_nil) ob114 S29.sub (by simp) (ds := [vi x10]) rfl (fun w115 s116 ob117 => ?_)
   have S118 := S29.trans1 s116 (.inl (by simp))
   refine WL.nil <| WQ.anyN <| WA.one (i := 3) (by kernel_rfl) rfl ?_
   have ob119 := (ob102.step1 s116 (Ne.symm ne19))
   refine Wv rfl (ov_load1 rfl t_agg_23 (OB.cell ob119 (j := 0) rfl)) <| WL.nil <| WQ.anyN <| WA.one (i := 5) (by kernel_rfl) rfl ?_
   have ob120 := ((((ob8.step0 s17).step1 s24 ne20).step0 s28).step1 s116 (Ne.symm ne11))
   refine WL.store (vs := [vi x9]) rfl rfl rfl rfl t_size_23 (one_cons rfl one_nil) ob120 S118.sub (by simp) (ds := [vi x9]) rfl (fun w121 s122 ob123 => ?_)
   have S124 := S118.trans1 s122 (.inl (by simp))
   refine WL.nil <| WQ.anyN <| WA.fin (by kernel_rfl) <| WQ.blockN ?_
   have ob125 := (ob117.step1 s122 ne11)
   refine WQ.end0 rfl ?_
   obtain rfl := Option.some.inj HF
   exact ⟨_, rfl, h0, S124, rfl, ob125, ob123⟩
  skip
  have ob126 := (ob25.step0 s28)
  refine Wv rfl (ov_load1 rfl t_agg_23 (OB.cell ob126 (j := 0) rfl)) <| WL.nil <| WQ.anyN <| WA.one (i := 1) (by kernel_rfl) rfl <| Wv rfl (ov_load1 rfl t_agg_3 (OB.cell ob126 (j := 1) rfl)) <| WL.nil <| WQ.anyN <| WA.one (i := 4) (by kernel_rfl) rfl ?_
  have ob127 := (((ob4.step0 s17).step1 s24 ne19).step0 s28)
  refine WL.store (vs := [vi x10]) rfl rfl rfl rfl t_size_3 (one_cons rfl one_nil) ob127 S29.sub (by simp) (ds := [vi x10]) rfl (fun w128 s129 ob130 => ?_)
  have S131 := S29.trans1 s129 (.inl (by simp))
  refine WL.nil <| WQ.anyN <| WA.one (i := 5) (by kernel_rfl) rfl ?_
  have ob132 := ((((ob8.step0 s17).step1 s24 ne20).step0 s28).step1 s129 (Ne.symm ne11))
  refine WL.store (vs := [vi x9]) rfl rfl rfl rfl t_size_23 (one_cons rfl one_nil) ob132 S131.sub (by simp) (ds := [vi x9]) rfl (fun w133 s134 ob135 => ?_)
  have S136 := S131.trans1 s134 (.inl (by simp))
  refine WL.nil <| WQ.anyN <| WA.fin (by kernel_rfl) <| WQ.blockN ?_
  have ob137 := (ob130.step1 s134 ne11)
  refine WQ.end0 rfl ?_
  obtain rfl := Option.some.inj HF
  exact ⟨_, rfl, h0, S136, rfl, ob137, ob135⟩
 skip
 have ob138 := (ob25.step0 s28)
 refine Wv rfl (ov_load1 rfl t_agg_23 (OB.cell ob138 (j := 0) rfl)) <| WL.nil <| WQ.anyN <| WA.one (i := 0) (by kernel_rfl) rfl <| Wv rfl (ov_fieldAddr rfl t_field_138_1) <| WL.nil <| WQ.anyN <| WA.one (i := 1) (by kernel_rfl) rfl <| Wv rfl (ov_load1 rfl t_agg_3 (OB.cell ob138 (j := 1) rfl)) <| WL.nil <| WQ.anyN <| WA.one (i := 4) (by kernel_rfl) rfl ?_
 have ob139 := (((ob4.step0 s17).step1 s24 ne19).step0 s28)
 refine WL.store (vs := [vi x10]) rfl rfl rfl rfl t_size_3 (one_cons rfl one_nil) ob139 S29.sub (by simp) (ds := [vi x10]) rfl (fun w140 s141 ob142 => ?_)
 have S143 := S29.trans1 s141 (.inl (by simp))
 refine WL.nil <| WQ.anyN <| WA.one (i := 5) (by kernel_rfl) rfl ?_
 have ob144 := ((((ob8.step0 s17).step1 s24 ne20).step0 s28).step1 s141 (Ne.symm ne11))
 refine WL.store (vs := [vi x9]) rfl rfl rfl rfl t_size_23 (one_cons rfl one_nil) ob144 S143.sub (by simp) (ds := [vi x9]) rfl (fun w145 s146 ob147 => ?_)
 have S148 := S143.trans1 s146 (.inl (by simp))
 refine WL.nil <| WQ.anyN <| WA.fin (by kernel_rfl) <| WQ.blockN ?_
 have ob149 := (ob142.step1 s146 ne11)
 refine WQ.end0 rfl ?_
 obtain rfl := Option.some.inj HF
 exact ⟨_, rfl, h0, S148, rfl, ob149, ob147⟩
theorem ok_parse_Source_1_panic (k : Nat) : C_parse_Source_1_panic (F_parse_Source_1_panic k) := s_parse_Source_1_panic k

def C_parse_is (φ : Tok → ByteArray → Option Bool) : Prop := ∀ ⦃x1 : Tok⦄ ⦃x4 : ByteArray⦄ ⦃r : Bool⦄, φ x1 x4 = some r → ∀ ⦃w0 : World⦄ ⦃h0 : Hp⦄ ⦃cs2 : List Value⦄, Sub h0 w0 → Rp.R h0 x1 cs2 →
  Calls Tryz.prog 186 #[.agg cs2.toArray, .string x4] w0 fun e w1 => ∃ v, e = .returned v ∧ ∃ h1, Stp [] w0 h0 w1 h1 ∧ v = .bool r
theorem s_parse_is (k : Nat) : C_parse_is (F_parse_is k) := by
 intro x1 x4 r HF w0 h0 cs2 hs0 r3
 have S0 : Stp [] w0 h0 w0 h0 := Stp.refl hs0 _
 refine enter (n := 19) Tryz.func186 rfl Tryz.ntmps186 rfl [(0, .agg cs2.toArray), (1, .string x4)] rfl <| WC.seq <| WC.region ?_
 obtain rfl := rp_Tok.1 r3
 refine WL.box (cs := [vi x1.kind, .string x1.text, vi x1.pos]) rfl rfl rfl rfl S0.sub (fun w5 b6 hb7 s8 ob9 => ?_)
 have g10 : w0.heap.size ≤ b6 := by rw [hb7]; exact S0.size
 have S11 := S0.trans0 s8
 refine Wa rfl rfl <| WL.nil <| WQ.seqN <| WC.seq <| WC.region <| Wv rfl (ov_fieldAddr rfl t_field_38_0) <| Wv rfl (ov_load1 rfl t_agg_3 (OB.cell ob9 (j := 0) rfl)) <| Wv rfl (ov_eql rfl rfl) <| Wm rfl rfl <| WL.sF 8 HF rfl (fun HF => ?_) (fun HF => ?_)
 ·refine Wp rfl <| Wp rfl <| Wp rfl <| Wv rfl (ov_pickT rfl rfl) <| Wm rfl rfl <| Wv rfl (ov_fieldAddr rfl t_field_38_1) <| Wv rfl (ov_load1 rfl t_agg_9 (OB.cell ob9 (j := 1) rfl)) <| Wm rfl rfl <| Wv rfl (ov_eqlS rfl rfl) <| Wv rfl (ov_pickT rfl rfl) <| Wa rfl rfl <| WL.nil <| WQ.seqN <| WC.ret <| WQ.ret1 rfl rfl ?_
  obtain rfl := Option.some.inj HF
  exact ⟨_, rfl, h0, S11, rfl⟩
 refine Wv rfl (ov_fieldAddr rfl t_field_38_0) <| Wv rfl (ov_load1 rfl t_agg_3 (OB.cell ob9 (j := 0) rfl)) <| Wv rfl (ov_eql rfl rfl) <| Wv rfl (ov_pickF rfl rfl) <| Wm rfl rfl <| WL.sF 13 HF rfl (fun HF => ?_) (fun HF => ?_)
 ·refine Wv rfl (ov_fieldAddr rfl t_field_38_1) <| Wv rfl (ov_load1 rfl t_agg_9 (OB.cell ob9 (j := 1) rfl)) <| Wm rfl rfl <| Wv rfl (ov_eqlS rfl rfl) <| Wv rfl (ov_pickT rfl rfl) <| Wa rfl rfl <| WL.nil <| WQ.seqN <| WC.ret <| WQ.ret1 rfl rfl ?_
  obtain rfl := Option.some.inj HF
  exact ⟨_, rfl, h0, S11, rfl⟩
 refine Wp rfl <| Wp rfl <| Wp rfl <| Wp rfl <| Wv rfl (ov_pickF rfl rfl) <| Wa rfl rfl <| WL.nil <| WQ.seqN <| WC.ret <| WQ.ret1 rfl rfl ?_
 obtain rfl := Option.some.inj HF
 exact ⟨_, rfl, h0, S11, rfl⟩
theorem ok_parse_is (k : Nat) : C_parse_is (F_parse_is k) := s_parse_is k

def C_parse_Parser_Is (φ : (List Tok) → Int → ByteArray → Option Bool) : Prop := ∀ ⦃xs3 : List Tok⦄ ⦃x6 : Int⦄ ⦃x8 : ByteArray⦄ ⦃r : Bool⦄, φ xs3 x6 x8 = some r → ∀ ⦃w0 : World⦄ ⦃h0 : Hp⦄ ⦃b1 : Nat⦄ ⦃T2 : Nat⦄ ⦃v4 : Value⦄, Sub h0 w0 → RS h0 v4 xs3 → OB w0 h0 b1 T2 [v4, .int .i64 x6] →
  Calls Tryz.prog 157 #[.pointer (some ⟨b1, 0, none⟩), .string x8] w0 fun e w1 => ∃ v, e = .returned v ∧ ∃ h1, Stp [] w0 h0 w1 h1 ∧ v = .bool r
theorem s_parse_Parser_Is (k : Nat) : C_parse_Parser_Is (F_parse_Parser_Is k) := by
 intro xs3 x6 x8 r HF w0 h0 b1 T2 v4 hs0 rs5 ob7
 have S0 : Stp [] w0 h0 w0 h0 := Stp.refl hs0 _
 have lt9 : b1 < w0.heap.size := OB.lt ob7
 refine enter (n := 9) Tryz.func157 rfl Tryz.ntmps157 rfl [(0, pt b1 0), (1, .string x8)] rfl <| WC.seq <| WC.region <| Wa rfl rfl <| WL.nil <| WQ.seqN <| WC.seq <| WC.region <| Wm rfl rfl ?_
 obtain ⟨r10, hr11, HF⟩ := bind_some HF
 refine Wc rfl (oc_func (vs := [pt b1 0]) rfl t_ent_107) (ok_parse_Parser_Now _ hr11 S0.sub rs5 ob7) ?_
 rintro _ w13 ⟨h14, s15, ⟨cs16, rfl, r17⟩⟩
 have S18 := S0.trans0 s15
 refine Wm rfl rfl ?_
 obtain ⟨r19, hr20, HF⟩ := bind_some HF
 refine Wc rfl (oc_func (vs := [.agg cs16.toArray, .string x8]) rfl t_ent_186) (ok_parse_is _ hr20 S18.sub r17) ?_
 rintro _ w22 ⟨h23, s24, rfl⟩
 have S25 := S18.trans0 s24
 refine Wa rfl rfl <| WL.nil <| WQ.seqN <| WC.ret <| WQ.ret1 rfl rfl ?_
 obtain rfl := Option.some.inj HF
 exact ⟨_, rfl, h23, S25, rfl⟩
theorem ok_parse_Parser_Is (k : Nat) : C_parse_Parser_Is (F_parse_Parser_Is k) := s_parse_Parser_Is k

def C_parse_Parser_Skip (φ : (List Tok) → Int → ByteArray → Option (Bool × Int)) : Prop := ∀ ⦃xs3 : List Tok⦄ ⦃x6 : Int⦄ ⦃x8 : ByteArray⦄ ⦃r : Bool × Int⦄, φ xs3 x6 x8 = some r → ∀ ⦃w0 : World⦄ ⦃h0 : Hp⦄ ⦃b1 : Nat⦄ ⦃T2 : Nat⦄ ⦃v4 : Value⦄, Sub h0 w0 → RS h0 v4 xs3 → OB w0 h0 b1 T2 [v4, .int .i64 x6] →
  Calls Tryz.prog 109 #[.pointer (some ⟨b1, 0, none⟩), .string x8] w0 fun e w1 => ∃ v, e = .returned v ∧ ∃ h1, Stp [b1] w0 h0 w1 h1 ∧ v = .bool r.1 ∧ (OB w1 h1 b1 T2 [v4, .int .i64 r.2])
theorem s_parse_Parser_Skip (k : Nat) : C_parse_Parser_Skip (F_parse_Parser_Skip k) := by
 intro xs3 x6 x8 r HF w0 h0 b1 T2 v4 hs0 rs5 ob7
 have S0 : Stp [b1] w0 h0 w0 h0 := Stp.refl hs0 _
 have lt9 : b1 < w0.heap.size := OB.lt ob7
 refine enter (n := 16) Tryz.func109 rfl Tryz.ntmps109 rfl [(0, pt b1 0), (1, .string x8)] rfl <| WC.seq <| WC.region <| Wa rfl rfl <| WL.nil <| WQ.seqN <| WC.join (fun E w20 => ∃ (h19 : Hp), parse_Parser_Skip_j1 k x6 = some r ∧ E = [(0, pt b1 0)] ∧ Stp [b1] w0 h0 w20 h19 ∧ Hle h0 h19 ∧ OB w20 h19 b1 T2 [v4, vi x6]) ?_ ?_
 ·rintro E w20 ⟨h19, HF, rfl, S22, le21, ob23⟩
  refine WC.seq <| WC.region <| Wm rfl rfl <| Wv rfl (ov_nilCheck rfl) <| Wv rfl (ov_fieldAddr rfl t_field_140_1) <| Wv rfl (ov_load1 rfl t_agg_3 (OB.cell ob23 (j := 1) rfl)) <| Wv rfl (ov_add rfl rfl) <| Wv rfl (ov_nilCheck rfl) <| Wv rfl (ov_fieldAddr rfl t_field_140_1) <| WL.store (vs := [vi (IntKind.i64.wrap (x6 + 1))]) rfl rfl rfl rfl t_size_3 (one_cons rfl one_nil) ob23 S22.sub (by simp) (ds := [v4, vi (IntKind.i64.wrap (x6 + 1))]) rfl (fun w24 s25 ob26 => ?_)
  have S27 := S22.trans1 s25 (.inl (by simp))
  refine WL.nil <| WQ.seqN <| WC.seq <| WC.region <| Wa rfl rfl <| WL.nil <| WQ.seqN <| WC.ret <| WQ.ret1 rfl rfl ?_
  obtain rfl := Option.some.inj HF
  exact ⟨_, rfl, h19, S27, rfl, ob26⟩
 intro J28
 refine WC.seq <| WC.region <| Wm rfl rfl <| Wm rfl rfl ?_
 obtain ⟨r10, hr11, HF⟩ := bind_some HF
 refine Wc rfl (oc_func (vs := [pt b1 0, .string x8]) rfl t_ent_157) (ok_parse_Parser_Is _ hr11 S0.sub rs5 ob7) ?_
 rintro _ w13 ⟨h14, s15, rfl⟩
 have S16 := S0.trans0 s15
 refine Wv rfl (ov_not rfl) <| WL.nil <| WQ.seqN <| WC.cF HF rfl (fun HF => ?_) (fun HF => ?_)
 ·refine WC.seq <| WC.region <| Wa rfl rfl <| WL.nil <| WQ.seqN <| WC.ret <| WQ.thenRet ?_
  have ob18 := (ob7.step0 s15)
  refine WQ.ret1 rfl rfl ?_
  obtain rfl := Option.some.inj HF
  exact ⟨_, rfl, h14, S16, rfl, ob18⟩
 refine WC.skip ?_
 have ob29 := (ob7.step0 s15)
 refine WC.to [0] _ rfl ?_
 exact J28 ⟨h14, HF, rfl, S16, s15.le, ob29⟩
theorem ok_parse_Parser_Skip (k : Nat) : C_parse_Parser_Skip (F_parse_Parser_Skip k) := s_parse_Parser_Skip k

def C_parse_Parser_Want (φ : (List Tok) → Int → ByteArray → Option (Except (Int × Int × Int) Int)) : Prop := ∀ ⦃xs3 : List Tok⦄ ⦃x6 : Int⦄ ⦃x8 : ByteArray⦄ ⦃r : Except (Int × Int × Int) Int⦄, φ xs3 x6 x8 = some r → ∀ ⦃w0 : World⦄ ⦃h0 : Hp⦄ ⦃b1 : Nat⦄ ⦃T2 : Nat⦄ ⦃v4 : Value⦄, Sub h0 w0 → RS h0 v4 xs3 → OB w0 h0 b1 T2 [v4, .int .i64 x6] →
  Calls Tryz.prog 61 #[.pointer (some ⟨b1, 0, none⟩), .string x8] w0 fun e w1 => match r with | .ok r => ∃ v, e = .returned v ∧ ∃ h1, Stp [b1] w0 h0 w1 h1 ∧ v = .tuple #[] ∧ (OB w1 h1 b1 T2 [v4, .int .i64 r]) | .error t => ∃ ch, e = .panicked ch ∧ Trouble 138 t.1 t.2.1 ch ∧ ∃ h1, Stp [b1] w0 h0 w1 h1 ∧ (OB w1 h1 b1 T2 [v4, .int .i64 t.2.2])
theorem s_parse_Parser_Want (k : Nat) : C_parse_Parser_Want (F_parse_Parser_Want k) := by
 intro xs3 x6 x8 r HF w0 h0 b1 T2 v4 hs0 rs5 ob7
 have S0 : Stp [b1] w0 h0 w0 h0 := Stp.refl hs0 _
 have lt9 : b1 < w0.heap.size := OB.lt ob7
 refine enter (n := 10) Tryz.func61 rfl Tryz.ntmps61 rfl [(0, pt b1 0), (1, .string x8)] rfl <| WC.seq <| WC.region <| Wm rfl rfl <| Wm rfl rfl ?_
 obtain ⟨r10, hr11, HF⟩ := bind_some HF
 refine Wc rfl (oc_func (vs := [pt b1 0, .string x8]) rfl t_ent_109) (ok_parse_Parser_Skip _ hr11 S0.sub rs5 ob7) ?_
 rintro _ w13 ⟨h14, s15, rfl, ob16⟩
 have S17 := S0.trans s15 (in_cons (.inl (by simp)) in_nil)
 refine Wv rfl (ov_not rfl) <| WL.nil <| WQ.seqN <| WC.cF HF rfl (fun HF => ?_) (fun HF => ?_)
 ·refine WC.region <| Wm rfl rfl ?_
  obtain ⟨r19, hr20, HF⟩ := bind_some HF
  rcases r19 with t21 | r22
  ·obtain rfl := thenE_err HF
   refine WL.callE rfl (oc_func (vs := [pt b1 0]) rfl t_ent_111) (ok_parse_Parser_Fail _ hr20 S17.sub (rs5.mono (s15.le)) ob16) ?_
   rintro ch27 w28 ⟨ht29, h30, s31⟩
   refine WQ.panicOut ?_
   have S32 := S17.trans0 s31
   have ob33 := (ob16.step0 s31)
   exact ⟨_, rfl, ht29, h30, S32, ob33⟩
  replace HF := thenE_ok HF
  refine Wc rfl (oc_func (vs := [pt b1 0]) rfl t_ent_111) (ok_parse_Parser_Fail _ hr20 S17.sub (rs5.mono (s15.le)) ob16) ?_
  rintro v23 w24 ⟨h25, s26, rfl⟩
  have S34 := S17.trans0 s26
  refine WL.nil ?_
  have ob35 := (ob16.step0 s26)
  refine WQ.end0 rfl ?_
  obtain rfl := Option.some.inj HF
  exact ⟨_, rfl, h25, S34, rfl, ob35⟩
 refine WC.skip <| WQ.end0 rfl ?_
 obtain rfl := Option.some.inj HF
 exact ⟨_, rfl, h14, S17, rfl, ob16⟩
theorem ok_parse_Parser_Want (k : Nat) : C_parse_Parser_Want (F_parse_Parser_Want k) := s_parse_Parser_Want k

def C_parse_levels (φ : Option (List (List (ByteArray × Int)))) : Prop := ∀ ⦃r : List (List (ByteArray × Int))⦄, φ  = some r → ∀ ⦃w0 : World⦄ ⦃h0 : Hp⦄, Sub h0 w0 →
  Calls Tryz.prog 79 #[] w0 fun e w1 => ∃ v, e = .returned v ∧ ∃ h1, Stp [] w0 h0 w1 h1 ∧ RS h1 v r
theorem s_parse_levels (k : Nat) : C_parse_levels (F_parse_levels k) := by
 intro  r HF w0 h0  hs0 
 have S0 : Stp [] w0 h0 w0 h0 := Stp.refl hs0 _
 refine enter (n := 16) Tryz.func79 rfl Tryz.ntmps79 rfl [] rfl <| WC.seq <| WC.region <| Wa rfl rfl <| WL.nil <| WQ.seqN <| WC.seq <| WC.region <| WL.makeMap rfl rfl S0.sub (fun w1 b2 hb3 s4 ob5 => ?_)
 have g6 : w0.heap.size ≤ b2 := by rw [hb3]; exact S0.size
 have S7 := S0.trans0 s4
 refine WL.insert rfl rfl rfl rfl t_map_166 t_string_9 (.inl rfl) ob5 S7.sub rfl (fun w8 s9 ob10 => ?_)
 have S11 := S7.trans1 s9 (.inr g6)
 refine Wm rfl rfl <| WL.makeMap rfl rfl S11.sub (fun w12 b13 hb14 s15 ob16 => ?_)
 have ne17 : b2 ≠ b13 := ob10.ne_new hb14
 have g18 : w0.heap.size ≤ b13 := by rw [hb14]; exact S11.size
 have S19 := S11.trans0 s15
 refine WL.insert rfl rfl rfl rfl t_map_166 t_string_9 (.inl rfl) ob16 S19.sub rfl (fun w20 s21 ob22 => ?_)
 have S23 := S19.trans1 s21 (.inr g18)
 refine Wm rfl rfl ?_
 have ob24 := ((ob10.step0 s15).step1 s21 ne17)
 refine WL.makeMap rfl rfl S23.sub (fun w25 b26 hb27 s28 ob29 => ?_)
 have ne30 : b2 ≠ b26 := ob24.ne_new hb27
 have ne31 : b13 ≠ b26 := ob22.ne_new hb27
 have g32 : w0.heap.size ≤ b26 := by rw [hb27]; exact S23.size
 have S33 := S23.trans0 s28
 refine WL.insert rfl rfl rfl rfl t_map_166 t_string_9 (.inl rfl) ob29 S33.sub rfl (fun w34 s35 ob36 => ?_)
 have S37 := S33.trans1 s35 (.inr g32)
 refine Wm rfl rfl ?_
 have ob38 := ((ob24.step0 s28).step1 s35 ne30)
 have ob39 := ((ob22.step0 s28).step1 s35 ne31)
 refine WL.makeMap rfl rfl S37.sub (fun w40 b41 hb42 s43 ob44 => ?_)
 have ne45 : b2 ≠ b41 := ob38.ne_new hb42
 have ne46 : b13 ≠ b41 := ob39.ne_new hb42
 have ne47 : b26 ≠ b41 := ob36.ne_new hb42
 have g48 : w0.heap.size ≤ b41 := by rw [hb42]; exact S37.size
 have S49 := S37.trans0 s43
 refine WL.insert rfl rfl rfl rfl t_map_166 t_string_9 (.inl rfl) ob44 S49.sub rfl (fun w50 s51 ob52 => ?_)
 have S53 := S49.trans1 s51 (.inr g48)
 refine WL.insert rfl rfl rfl rfl t_map_166 t_string_9 (.inl rfl) ob52 S53.sub rfl (fun w54 s55 ob56 => ?_)
 have S57 := S53.trans1 s55 (.inr g48)
 refine Wm rfl rfl ?_
 have ob58 := (((ob38.step0 s43).step1 s51 ne45).step1 s55 ne45)
 have ob59 := (((ob39.step0 s43).step1 s51 ne46).step1 s55 ne46)
 have ob60 := (((ob36.step0 s43).step1 s51 ne47).step1 s55 ne47)
 refine WL.makeMap rfl rfl S57.sub (fun w61 b62 hb63 s64 ob65 => ?_)
 have ne66 : b2 ≠ b62 := ob58.ne_new hb63
 have ne67 : b13 ≠ b62 := ob59.ne_new hb63
 have ne68 : b26 ≠ b62 := ob60.ne_new hb63
 have ne69 : b41 ≠ b62 := ob56.ne_new hb63
 have g70 : w0.heap.size ≤ b62 := by rw [hb63]; exact S57.size
 have S71 := S57.trans0 s64
 refine WL.insert rfl rfl rfl rfl t_map_166 t_string_9 (.inl rfl) ob65 S71.sub rfl (fun w72 s73 ob74 => ?_)
 have S75 := S71.trans1 s73 (.inr g70)
 refine WL.insert rfl rfl rfl rfl t_map_166 t_string_9 (.inl rfl) ob74 S75.sub rfl (fun w76 s77 ob78 => ?_)
 have S79 := S75.trans1 s77 (.inr g70)
 refine WL.insert rfl rfl rfl rfl t_map_166 t_string_9 (.inl rfl) ob78 S79.sub rfl (fun w80 s81 ob82 => ?_)
 have S83 := S79.trans1 s81 (.inr g70)
 refine WL.insert rfl rfl rfl rfl t_map_166 t_string_9 (.inl rfl) ob82 S83.sub rfl (fun w84 s85 ob86 => ?_)
 have S87 := S83.trans1 s85 (.inr g70)
 refine Wm rfl rfl ?_
 have ob88 := (((((ob58.step0 s64).step1 s73 ne66).step1 s77 ne66).step1 s81 ne66).step1 s85 ne66)
 have ob89 := (((((ob59.step0 s64).step1 s73 ne67).step1 s77 ne67).step1 s81 ne67).step1 s85 ne67)
 have ob90 := (((((ob60.step0 s64).step1 s73 ne68).step1 s77 ne68).step1 s81 ne68).step1 s85 ne68)
 have ob91 := (((((ob56.step0 s64).step1 s73 ne69).step1 s77 ne69).step1 s81 ne69).step1 s85 ne69)
 refine WL.makeMap rfl rfl S87.sub (fun w92 b93 hb94 s95 ob96 => ?_)
 have ne97 : b2 ≠ b93 := ob88.ne_new hb94
 have ne98 : b13 ≠ b93 := ob89.ne_new hb94
 have ne99 : b26 ≠ b93 := ob90.ne_new hb94
 have ne100 : b41 ≠ b93 := ob91.ne_new hb94
 have ne101 : b62 ≠ b93 := ob86.ne_new hb94
 have g102 : w0.heap.size ≤ b93 := by rw [hb94]; exact S87.size
 have S103 := S87.trans0 s95
 refine WL.insert rfl rfl rfl rfl t_map_166 t_string_9 (.inl rfl) ob96 S103.sub rfl (fun w104 s105 ob106 => ?_)
 have S107 := S103.trans1 s105 (.inr g102)
 refine WL.insert rfl rfl rfl rfl t_map_166 t_string_9 (.inl rfl) ob106 S107.sub rfl (fun w108 s109 ob110 => ?_)
 have S111 := S107.trans1 s109 (.inr g102)
 refine Wm rfl rfl ?_
 have ob112 := (((ob88.step0 s95).step1 s105 ne97).step1 s109 ne97)
 have ob113 := (((ob89.step0 s95).step1 s105 ne98).step1 s109 ne98)
 have ob114 := (((ob90.step0 s95).step1 s105 ne99).step1 s109 ne99)
 have ob115 := (((ob91.step0 s95).step1 s105 ne100).step1 s109 ne100)
 have ob116 := (((ob86.step0 s95).step1 s105 ne101).step1 s109 ne101)
 refine WL.makeMap rfl rfl S111.sub (fun w117 b118 hb119 s120 ob121 => ?_)
 have ne122 : b2 ≠ b118 := ob112.ne_new hb119
 have ne123 : b13 ≠ b118 := ob113.ne_new hb119
 have ne124 : b26 ≠ b118 := ob114.ne_new hb119
 have ne125 : b41 ≠ b118 := ob115.ne_new hb119
 have ne126 : b62 ≠ b118 := ob116.ne_new hb119
 have ne127 : b93 ≠ b118 := ob110.ne_new hb119
 have g128 : w0.heap.size ≤ b118 := by rw [hb119]; exact S111.size
 have S129 := S111.trans0 s120
 refine WL.insert rfl rfl rfl rfl t_map_166 t_string_9 (.inl rfl) ob121 S129.sub rfl (fun w130 s131 ob132 => ?_)
 have S133 := S129.trans1 s131 (.inr g128)
 refine WL.insert rfl rfl rfl rfl t_map_166 t_string_9 (.inl rfl) ob132 S133.sub rfl (fun w134 s135 ob136 => ?_)
 have S137 := S133.trans1 s135 (.inr g128)
 refine WL.insert rfl rfl rfl rfl t_map_166 t_string_9 (.inl rfl) ob136 S137.sub rfl (fun w138 s139 ob140 => ?_)
 have S141 := S137.trans1 s139 (.inr g128)
 refine Wm rfl rfl ?_
 have ob142 := ((((ob112.step0 s120).step1 s131 ne122).step1 s135 ne122).step1 s139 ne122)
 obtain ⟨h143, s144, rm145⟩ := MB.freeze (evl := (fun x : Int => vi x)) (T := ([(b'46, 8)] : List (ByteArray × Int))) ob142 S141.sub
 have S146 := S141.trans1 s144 (.inr g6)
 have ob147 := (((((ob113.step0 s120).step1 s131 ne123).step1 s135 ne123).step1 s139 ne123).step1 s144 (Ne.symm ne17))
 obtain ⟨h148, s149, rm150⟩ := MB.freeze (evl := (fun x : Int => vi x)) (T := ([(b'78, 9)] : List (ByteArray × Int))) ob147 S146.sub
 have S151 := S146.trans1 s149 (.inr g18)
 have ob152 := ((((((ob114.step0 s120).step1 s131 ne124).step1 s135 ne124).step1 s139 ne124).step1 s144 (Ne.symm ne30)).step1 s149 (Ne.symm ne31))
 obtain ⟨h153, s154, rm155⟩ := MB.freeze (evl := (fun x : Int => vi x)) (T := ([(b'100, 10)] : List (ByteArray × Int))) ob152 S151.sub
 have S156 := S151.trans1 s154 (.inr g32)
 have ob157 := (((((((ob115.step0 s120).step1 s131 ne125).step1 s135 ne125).step1 s139 ne125).step1 s144 (Ne.symm ne45)).step1 s149 (Ne.symm ne46)).step1 s154 (Ne.symm ne47))
 obtain ⟨h158, s159, rm160⟩ := MB.freeze (evl := (fun x : Int => vi x)) (T := ([(b'93, 11), (b'91, 12)] : List (ByteArray × Int))) ob157 S156.sub
 have S161 := S156.trans1 s159 (.inr g48)
 have ob162 := ((((((((ob116.step0 s120).step1 s131 ne126).step1 s135 ne126).step1 s139 ne126).step1 s144 (Ne.symm ne66)).step1 s149 (Ne.symm ne67)).step1 s154 (Ne.symm ne68)).step1 s159 (Ne.symm ne69))
 obtain ⟨h163, s164, rm165⟩ := MB.freeze (evl := (fun x : Int => vi x)) (T := ([(b'92, 13), (b'90, 14), (b'95, 15), (b'94, 16)] : List (ByteArray × Int))) ob162 S161.sub
 have S166 := S161.trans1 s164 (.inr g70)
 have ob167 := (((((((((ob110.step0 s120).step1 s131 ne127).step1 s135 ne127).step1 s139 ne127).step1 s144 (Ne.symm ne97)).step1 s149 (Ne.symm ne98)).step1 s154 (Ne.symm ne99)).step1 s159 (Ne.symm ne100)).step1 s164 (Ne.symm ne101))
 obtain ⟨h168, s169, rm170⟩ := MB.freeze (evl := (fun x : Int => vi x)) (T := ([(b'82, 17), (b'84, 18)] : List (ByteArray × Int))) ob167 S166.sub
 have S171 := S166.trans1 s169 (.inr g102)
 have ob172 := ((((((ob140.step1 s144 (Ne.symm ne122)).step1 s149 (Ne.symm ne123)).step1 s154 (Ne.symm ne124)).step1 s159 (Ne.symm ne125)).step1 s164 (Ne.symm ne126)).step1 s169 (Ne.symm ne127))
 obtain ⟨h173, s174, rm175⟩ := MB.freeze (evl := (fun x : Int => vi x)) (T := ([(b'81, 19), (b'86, 20), (b'39, 21)] : List (ByteArray × Int))) ob172 S171.sub
 have S176 := S171.trans1 s174 (.inr g128)
 refine WL.buildSliceD (us := [.map (some b2), .map (some b13), .map (some b26), .map (some b41), .map (some b62), .map (some b93), .map (some b118)]) (cs := [.map (some b2), .map (some b13), .map (some b26), .map (some b41), .map (some b62), .map (some b93), .map (some b118)]) rfl rfl rfl t_slice_118 t_size_166 t_zero_166 rfl (cl_cons rfl (cl_cons rfl (cl_cons rfl (cl_cons rfl (cl_cons rfl (cl_cons rfl (cl_cons rfl cl_nil))))))) rfl rfl rfl S176.sub (fun w177 h178 b179 hb180 s181 hk182 hc183 => ?_)
 have S184 := S176.trans0 s181
 have rs185 : RS h178 (sl b179 0 7 7) ([([(b'46, 8)] : List (ByteArray × Int)), ([(b'78, 9)] : List (ByteArray × Int)), ([(b'100, 10)] : List (ByteArray × Int)), ([(b'93, 11), (b'91, 12)] : List (ByteArray × Int)), ([(b'92, 13), (b'90, 14), (b'95, 15), (b'94, 16)] : List (ByteArray × Int)), ([(b'82, 17), (b'84, 18)] : List (ByteArray × Int)), ([(b'81, 19), (b'86, 20), (b'39, 21)] : List (ByteArray × Int))] : List (List (ByteArray × Int))) := RS.litL _ [[.map (some b2)], [.map (some b13)], [.map (some b26)], [.map (some b41)], [.map (some b62)], [.map (some b93)], [.map (some b118)]] rfl rfl hc183 ⟨⟨_, rfl, (rm145.mono ((s149.le).trans ((s154.le).trans ((s159.le).trans ((s164.le).trans ((s169.le).trans ((s174.le).trans s181.le)))))))⟩, ⟨_, rfl, (rm150.mono ((s154.le).trans ((s159.le).trans ((s164.le).trans ((s169.le).trans ((s174.le).trans s181.le))))))⟩, ⟨_, rfl, (rm155.mono ((s159.le).trans ((s164.le).trans ((s169.le).trans ((s174.le).trans s181.le)))))⟩, ⟨_, rfl, (rm160.mono ((s164.le).trans ((s169.le).trans ((s174.le).trans s181.le))))⟩, ⟨_, rfl, (rm165.mono ((s169.le).trans ((s174.le).trans s181.le)))⟩, ⟨_, rfl, (rm170.mono ((s174.le).trans s181.le))⟩, ⟨_, rfl, (rm175.mono (s181.le))⟩, trivial⟩
 have ow186 := Own.lit (base := w0.heap.size) (sz := 1) (m := 7) hk182 hc183 (by rw [hb180]; exact S176.size) rfl (by decide)
 refine Wa rfl rfl <| WL.nil <| WQ.seqN <| WC.ret <| WQ.ret1 rfl rfl ?_
 obtain rfl := Option.some.inj HF
 exact ⟨_, rfl, h178, S184, rs185⟩
theorem ok_parse_levels (k : Nat) : C_parse_levels (F_parse_levels k) := s_parse_levels k

def C_parse_Parser_Name (φ : (List Tok) → Int → Option (Except (Int × Int × Int) (ByteArray × Int))) : Prop := ∀ ⦃xs3 : List Tok⦄ ⦃x6 : Int⦄ ⦃r : Except (Int × Int × Int) (ByteArray × Int)⦄, φ xs3 x6 = some r → ∀ ⦃w0 : World⦄ ⦃h0 : Hp⦄ ⦃b1 : Nat⦄ ⦃T2 : Nat⦄ ⦃v4 : Value⦄, Sub h0 w0 → RS h0 v4 xs3 → OB w0 h0 b1 T2 [v4, .int .i64 x6] →
  Calls Tryz.prog 108 #[.pointer (some ⟨b1, 0, none⟩)] w0 fun e w1 => match r with | .ok r => ∃ v, e = .returned v ∧ ∃ h1, Stp [b1] w0 h0 w1 h1 ∧ v = .string r.1 ∧ (OB w1 h1 b1 T2 [v4, .int .i64 r.2]) | .error t => ∃ ch, e = .panicked ch ∧ Trouble 138 t.1 t.2.1 ch ∧ ∃ h1, Stp [b1] w0 h0 w1 h1 ∧ (OB w1 h1 b1 T2 [v4, .int .i64 t.2.2])
theorem s_parse_Parser_Name (k : Nat) : C_parse_Parser_Name (F_parse_Parser_Name k) := by
 intro xs3 x6 r HF w0 h0 b1 T2 v4 hs0 rs5 ob7
 have S0 : Stp [b1] w0 h0 w0 h0 := Stp.refl hs0 _
 have lt8 : b1 < w0.heap.size := OB.lt ob7
 refine enter (n := 5) Tryz.func108 rfl Tryz.ntmps108 rfl [(0, pt b1 0)] rfl <| WC.seq <| WC.region <| Wa rfl rfl <| WL.nil <| WQ.seqN <| WC.seq <| WC.region <| Wm rfl rfl ?_
 obtain ⟨r9, hr10, HF⟩ := bind_some HF
 rcases r9 with t11 | r12
 ·obtain rfl := thenE_err HF
  refine WL.callE rfl (oc_func (vs := [pt b1 0, vi 1]) rfl t_ent_99) (ok_parse_Parser_Take _ hr10 S0.sub rs5 ob7) ?_
  rintro ch18 w19 ⟨ht20, h21, s22, ob17⟩
  refine WQ.thenPanic <| WQ.panicOut ?_
  have S23 := S0.trans s22 (in_cons (.inl (by simp)) in_nil)
  exact ⟨_, rfl, ht20, h21, S23, ob17⟩
 replace HF := thenE_ok HF
 refine Wc rfl (oc_func (vs := [pt b1 0, vi 1]) rfl t_ent_99) (ok_parse_Parser_Take _ hr10 S0.sub rs5 ob7) ?_
 rintro _ w14 ⟨h15, s16, rfl, ob24⟩
 have S25 := S0.trans s16 (in_cons (.inl (by simp)) in_nil)
 refine Wa rfl rfl <| WL.nil <| WQ.seqN <| WC.ret <| WQ.ret1 rfl rfl ?_
 obtain rfl := Option.some.inj HF
 exact ⟨_, rfl, h15, S25, rfl, ob24⟩
theorem ok_parse_Parser_Name (k : Nat) : C_parse_Parser_Name (F_parse_Parser_Name k) := s_parse_Parser_Name k

def C_strconv_Atoi (φ : ByteArray → Option (Int × Bool)) : Prop := ∀ ⦃x1 : ByteArray⦄ ⦃r : Int × Bool⦄, φ x1 = some r → ∀ ⦃w0 : World⦄ ⦃h0 : Hp⦄, Sub h0 w0 →
  Calls Tryz.prog 150 #[.string x1] w0 fun e w1 => ∃ v, e = .returned v ∧ ∃ h1, Stp [] w0 h0 w1 h1 ∧ (∃ u0 u1 : Value, v = .tuple #[u0, u1] ∧ (u0 = .int .i64 r.1) ∧ (ErrV u1 r.2))
theorem ok_strconv_Atoi (k : Nat) : C_strconv_Atoi (F_strconv_Atoi k) := by
  intro x1 r HF w0 h0 hs0
  simp only [F_strconv_Atoi] at HF
  obtain ⟨hn, HF⟩ := ite_none HF
  rcases hE : Lib.atoiAll x1.data.toList with v | _ | _
  · rw [atoiR_ok hE] at HF; cases HF
    refine (Any.strconv_Atoi_ok Tryz.laysC172 x1 (Nat.le_trans hn (by decide)) v hE w0).mono ?_
    rintro e w1 ⟨rfl, hw⟩
    exact ⟨_, rfl, h0, atoi_stp hs0 hw, _, _, rfl, rfl, rfl⟩
  · rw [atoiR_bad (fun v q => by rw [hE] at q; cases q) (by rw [hE]; intro q; cases q)] at HF; cases HF
    obtain ⟨te, pe, hv⟩ := hs0.glob.g4
    refine (Any.strconv_Atoi_syntax Tryz.laysC172 x1 hn hE _ w0 (hs0.at_ _ _ _ hv) (.inr ⟨te, pe, rfl⟩)).mono ?_
    rintro e w1 ⟨N, rfl, _, _, hb⟩
    exact ⟨_, rfl, h0, Stp.of_below hs0 hb, _, _, rfl, rfl, ⟨_, _, rfl⟩⟩
  · rw [atoiR_range hE] at HF; cases HF
    obtain ⟨te, pe, hv⟩ := hs0.glob.g5
    refine (Any.strconv_Atoi_range Tryz.laysC172 x1 hn hE _ w0 (hs0.at_ _ _ _ hv) (.inr ⟨te, pe, rfl⟩)).mono ?_
    rintro e w1 ⟨N, rfl, _, _, hb⟩
    exact ⟨_, rfl, h0, Stp.of_below hs0 hb, _, _, rfl, rfl, ⟨_, _, rfl⟩⟩

def C_parse_Parser_Time (φ : (List Tok) → Int → Option (Except (Int × Int × Int) (Int × Int))) : Prop := ∀ ⦃xs3 : List Tok⦄ ⦃x6 : Int⦄ ⦃r : Except (Int × Int × Int) (Int × Int)⦄, φ xs3 x6 = some r → ∀ ⦃w0 : World⦄ ⦃h0 : Hp⦄ ⦃b1 : Nat⦄ ⦃T2 : Nat⦄ ⦃v4 : Value⦄, Sub h0 w0 → RS h0 v4 xs3 → OB w0 h0 b1 T2 [v4, .int .i64 x6] →
  Calls Tryz.prog 173 #[.pointer (some ⟨b1, 0, none⟩)] w0 fun e w1 => match r with | .ok r => ∃ v, e = .returned v ∧ ∃ h1, Stp [b1] w0 h0 w1 h1 ∧ v = .int .i64 r.1 ∧ (OB w1 h1 b1 T2 [v4, .int .i64 r.2]) | .error t => ∃ ch, e = .panicked ch ∧ Trouble 138 t.1 t.2.1 ch ∧ ∃ h1, Stp [b1] w0 h0 w1 h1 ∧ (OB w1 h1 b1 T2 [v4, .int .i64 t.2.2])
theorem s_parse_Parser_Time (k : Nat) : C_parse_Parser_Time (F_parse_Parser_Time k) := by
 intro xs3 x6 r HF w0 h0 b1 T2 v4 hs0 rs5 ob7
 have S0 : Stp [b1] w0 h0 w0 h0 := Stp.refl hs0 _
 have lt8 : b1 < w0.heap.size := OB.lt ob7
 refine enter (n := 13) Tryz.func173 rfl Tryz.ntmps173 rfl [(0, pt b1 0)] rfl <| WC.seq <| WC.region <| Wa rfl rfl <| WL.nil <| WQ.seqN <| WC.seq <| WC.region <| Wm rfl rfl ?_
 obtain ⟨r9, hr10, HF⟩ := bind_some HF
 rcases r9 with t11 | r12
 ·obtain rfl := thenE_err HF
  refine WL.callE rfl (oc_func (vs := [pt b1 0, vi 3]) rfl t_ent_99) (ok_parse_Parser_Take _ hr10 S0.sub rs5 ob7) ?_
  rintro ch18 w19 ⟨ht20, h21, s22, ob17⟩
  refine WQ.thenPanic <| WQ.panicOut ?_
  have S23 := S0.trans s22 (in_cons (.inl (by simp)) in_nil)
  exact ⟨_, rfl, ht20, h21, S23, ob17⟩
 replace HF := thenE_ok HF
 refine Wc rfl (oc_func (vs := [pt b1 0, vi 3]) rfl t_ent_99) (ok_parse_Parser_Take _ hr10 S0.sub rs5 ob7) ?_
 rintro _ w14 ⟨h15, s16, rfl, ob24⟩
 have S25 := S0.trans s16 (in_cons (.inl (by simp)) in_nil)
 obtain ⟨t26, ht27, HF⟩ := bind_some HF
 refine Wv rfl (ov_sliceSL rfl rfl t_string_9 ht27) ?_
 obtain ⟨r28, hr29, HF⟩ := bind_some HF
 refine Wc rfl (oc_func (vs := [.string t26]) rfl t_ent_150) (ok_strconv_Atoi _ hr29 S25.sub) ?_
 rintro _ w31 ⟨h32, s33, _, v34, rfl, rfl, ev35⟩
 have S36 := S25.trans0 s33
 refine Wm rfl rfl <| Wv rfl (ov_extract rfl rfl) <| Wv rfl (ov_extract rfl rfl) <| Wa rfl rfl <| Wa rfl rfl <| WL.nil <| WQ.seqN <| WC.seq <| WC.region <| Wm rfl rfl <| Wa rfl rfl <| WL.nil <| WQ.seqN <| WC.ret ?_
 have ob37 := (ob24.step0 s33)
 refine WQ.ret1 rfl rfl ?_
 obtain rfl := Option.some.inj HF
 exact ⟨_, rfl, h32, S36, rfl, ob37⟩
theorem ok_parse_Parser_Time (k : Nat) : C_parse_Parser_Time (F_parse_Parser_Time k) := s_parse_Parser_Time k

def C_parse_Parser_Int (φ : (List Tok) → Int → Option (Except (Int × Int × Int) (Int × Int))) : Prop := ∀ ⦃xs3 : List Tok⦄ ⦃x6 : Int⦄ ⦃r : Except (Int × Int × Int) (Int × Int)⦄, φ xs3 x6 = some r → ∀ ⦃w0 : World⦄ ⦃h0 : Hp⦄ ⦃b1 : Nat⦄ ⦃T2 : Nat⦄ ⦃v4 : Value⦄, Sub h0 w0 → RS h0 v4 xs3 → OB w0 h0 b1 T2 [v4, .int .i64 x6] →
  Calls Tryz.prog 159 #[.pointer (some ⟨b1, 0, none⟩)] w0 fun e w1 => match r with | .ok r => ∃ v, e = .returned v ∧ ∃ h1, Stp [b1] w0 h0 w1 h1 ∧ v = .int .i64 r.1 ∧ (OB w1 h1 b1 T2 [v4, .int .i64 r.2]) | .error t => ∃ ch, e = .panicked ch ∧ Trouble 138 t.1 t.2.1 ch ∧ ∃ h1, Stp [b1] w0 h0 w1 h1 ∧ (OB w1 h1 b1 T2 [v4, .int .i64 t.2.2])
theorem s_parse_Parser_Int (k : Nat) : C_parse_Parser_Int (F_parse_Parser_Int k) := by
 intro xs3 x6 r HF w0 h0 b1 T2 v4 hs0 rs5 ob7
 have S0 : Stp [b1] w0 h0 w0 h0 := Stp.refl hs0 _
 have lt8 : b1 < w0.heap.size := OB.lt ob7
 refine enter (n := 12) Tryz.func159 rfl Tryz.ntmps159 rfl [(0, pt b1 0)] rfl <| WC.seq <| WC.region <| Wa rfl rfl <| WL.nil <| WQ.seqN <| WC.seq <| WC.region <| Wm rfl rfl ?_
 obtain ⟨r9, hr10, HF⟩ := bind_some HF
 rcases r9 with t11 | r12
 ·obtain rfl := thenE_err HF
  refine WL.callE rfl (oc_func (vs := [pt b1 0, vi 2]) rfl t_ent_99) (ok_parse_Parser_Take _ hr10 S0.sub rs5 ob7) ?_
  rintro ch18 w19 ⟨ht20, h21, s22, ob17⟩
  refine WQ.thenPanic <| WQ.panicOut ?_
  have S23 := S0.trans s22 (in_cons (.inl (by simp)) in_nil)
  exact ⟨_, rfl, ht20, h21, S23, ob17⟩
 replace HF := thenE_ok HF
 refine Wc rfl (oc_func (vs := [pt b1 0, vi 2]) rfl t_ent_99) (ok_parse_Parser_Take _ hr10 S0.sub rs5 ob7) ?_
 rintro _ w14 ⟨h15, s16, rfl, ob24⟩
 have S25 := S0.trans s16 (in_cons (.inl (by simp)) in_nil)
 obtain ⟨r26, hr27, HF⟩ := bind_some HF
 refine Wc rfl (oc_func (vs := [.string r12.1]) rfl t_ent_150) (ok_strconv_Atoi _ hr27 S25.sub) ?_
 rintro _ w29 ⟨h30, s31, _, v32, rfl, rfl, ev33⟩
 have S34 := S25.trans0 s31
 refine Wm rfl rfl <| Wv rfl (ov_extract rfl rfl) <| Wv rfl (ov_extract rfl rfl) <| Wa rfl rfl <| Wa rfl rfl <| WL.nil <| WQ.seqN <| WC.seq <| WC.region <| Wm rfl rfl <| Wa rfl rfl <| WL.nil <| WQ.seqN <| WC.ret ?_
 have ob35 := (ob24.step0 s31)
 refine WQ.ret1 rfl rfl ?_
 obtain rfl := Option.some.inj HF
 exact ⟨_, rfl, h30, S34, rfl, ob35⟩
theorem ok_parse_Parser_Int (k : Nat) : C_parse_Parser_Int (F_parse_Parser_Int k) := s_parse_Parser_Int k
end Go.Proofs.YtkodnhngllfemaaGreatDoor
