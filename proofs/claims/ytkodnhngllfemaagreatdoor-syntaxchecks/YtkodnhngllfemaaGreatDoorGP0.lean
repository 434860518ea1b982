import Derived.Test.YtkodnhngllfemaaGreatDoorE0
import Derived.Test.YtkodnhngllfemaaGreatDoorProg
import Derived.Test.YtkodnhngllfemaaGreatDoorGF
import Derived.Test.YtkodnhngllfemaaGreatDoorGM
set_option linter.unusedVariables false
set_option linter.unusedSimpArgs false
set_option maxRecDepth 20000
set_option maxHeartbeats 4000000
namespace Go.Proofs.YtkodnhngllfemaaGreatDoor
open Go
abbrev b'0 : ByteArray := ⟨#[100, 101, 108, 97, 121]⟩
abbrev b'1 : ByteArray := ⟨#[100, 105, 118]⟩
abbrev b'2 : ByteArray := ⟨#[100, 111]⟩
abbrev b'3 : ByteArray := ⟨#[101, 108, 115, 101]⟩
abbrev b'4 : ByteArray := ⟨#[101, 108, 115, 105, 102]⟩
abbrev b'5 : ByteArray := ⟨#[101, 110, 100, 95, 102, 111, 114]⟩
abbrev b'6 : ByteArray := ⟨#[101, 110, 100, 95, 105, 102]⟩
abbrev b'7 : ByteArray := ⟨#[101, 110, 100, 95, 114, 101, 112, 101, 97, 116]⟩
abbrev b'8 : ByteArray := ⟨#[101, 110, 100, 95, 119, 104, 105, 108, 101]⟩
abbrev b'9 : ByteArray := ⟨#[101, 110, 100, 95, 99, 97, 115, 101]⟩
abbrev b'10 : ByteArray := ⟨#[101, 110, 100]⟩
abbrev b'11 : ByteArray := ⟨#[101, 110, 116, 101, 114]⟩
abbrev b'12 : ByteArray := ⟨#[101, 113]⟩
abbrev b'13 : ByteArray := ⟨#[101, 118, 101, 114, 121]⟩
abbrev b'14 : ByteArray := ⟨#[101, 120, 105, 116]⟩
abbrev b'15 : ByteArray := ⟨#[102, 111, 114]⟩
abbrev b'16 : ByteArray := ⟨#[102, 114, 111, 109]⟩
abbrev b'17 : ByteArray := ⟨#[102, 117, 110, 99, 116, 105, 111, 110]⟩
abbrev b'18 : ByteArray := ⟨#[102, 97, 108, 108]⟩
abbrev b'19 : ByteArray := ⟨#[102, 97, 108, 115, 101]⟩
abbrev b'20 : ByteArray := ⟨#[102, 98, 100]⟩
abbrev b'21 : ByteArray := ⟨#[103, 101]⟩
abbrev b'22 : ByteArray := ⟨#[103, 116]⟩
abbrev b'23 : ByteArray := ⟨#[105, 102]⟩
abbrev b'24 : ByteArray := ⟨#[105, 108]⟩
abbrev b'25 : ByteArray := ⟨#[105, 110, 105, 116, 105, 97, 108]⟩
abbrev b'26 : ByteArray := ⟨#[105, 110, 112, 117, 116]⟩
abbrev b'27 : ByteArray := ⟨#[105, 110, 116]⟩
abbrev b'28 : ByteArray := ⟨#[106, 109, 112, 99, 110]⟩
abbrev b'29 : ByteArray := ⟨#[106, 109, 112, 99]⟩
abbrev b'30 : ByteArray := ⟨#[106, 109, 112]⟩
abbrev b'31 : ByteArray := ⟨#[106, 117, 109, 112]⟩
abbrev b'32 : ByteArray := ⟨#[108, 100, 110]⟩
abbrev b'33 : ByteArray := ⟨#[108, 100]⟩
abbrev b'34 : ByteArray := ⟨#[108, 101, 97, 118, 101]⟩
abbrev b'35 : ByteArray := ⟨#[108, 101]⟩
abbrev b'36 : ByteArray := ⟨#[108, 105, 109, 105, 116, 95]⟩
abbrev b'37 : ByteArray := ⟨#[108, 111, 99, 97, 108]⟩
abbrev b'38 : ByteArray := ⟨#[108, 116]⟩
abbrev b'39 : ByteArray := ⟨#[109, 111, 100]⟩
abbrev b'40 : ByteArray := ⟨#[109, 117, 108]⟩
abbrev b'41 : ByteArray := ⟨#[109, 97, 99, 114, 111]⟩
abbrev b'42 : ByteArray := ⟨#[110, 101]⟩
abbrev b'43 : ByteArray := ⟨#[110, 111, 116]⟩
abbrev b'44 : ByteArray := ⟨#[111, 102]⟩
abbrev b'45 : ByteArray := ⟨#[111, 114, 110]⟩
abbrev b'46 : ByteArray := ⟨#[111, 114]⟩
abbrev b'47 : ByteArray := ⟨#[111, 117, 116, 112, 117, 116]⟩
abbrev b'48 : ByteArray := ⟨#[112, 104, 97, 115, 101]⟩
abbrev b'49 : ByteArray := ⟨#[112, 114, 105, 111, 114, 105, 116, 121]⟩
abbrev b'50 : ByteArray := ⟨#[112, 114, 111, 103, 114, 97, 109]⟩
abbrev b'51 : ByteArray := ⟨#[114, 101, 112, 101, 97, 116]⟩
abbrev b'52 : ByteArray := ⟨#[114, 101, 115, 101, 116]⟩
abbrev b'53 : ByteArray := ⟨#[114, 101, 116, 117, 114, 110]⟩
abbrev b'54 : ByteArray := ⟨#[114, 101, 116, 97, 105, 110]⟩
abbrev b'55 : ByteArray := ⟨#[114, 101, 116, 99, 110]⟩
abbrev b'56 : ByteArray := ⟨#[114, 101, 116, 99]⟩
abbrev b'57 : ByteArray := ⟨#[114, 101, 116]⟩
abbrev b'58 : ByteArray := ⟨#[114, 105, 115, 101]⟩
abbrev b'59 : ByteArray := ⟨#[114, 117, 110, 103]⟩
abbrev b'60 : ByteArray := ⟨#[114, 117, 110]⟩
abbrev b'61 : ByteArray := ⟨#[115, 101, 116]⟩
abbrev b'62 : ByteArray := ⟨#[115, 102, 99]⟩
abbrev b'63 : ByteArray := ⟨#[115, 116, 101, 112]⟩
abbrev b'64 : ByteArray := ⟨#[115, 116, 110]⟩
abbrev b'65 : ByteArray := ⟨#[115, 116]⟩
abbrev b'66 : ByteArray := ⟨#[115, 117, 98]⟩
abbrev b'67 : ByteArray := ⟨#[116, 104, 101, 110]⟩
abbrev b'68 : ByteArray := ⟨#[116, 105, 109, 101]⟩
abbrev b'69 : ByteArray := ⟨#[116, 111]⟩
abbrev b'70 : ByteArray := ⟨#[116, 114, 117, 101]⟩
abbrev b'71 : ByteArray := ⟨#[116, 114, 97, 110, 115, 105, 116, 105, 111, 110]⟩
abbrev b'72 : ByteArray := ⟨#[116, 35]⟩
abbrev b'73 : ByteArray := ⟨#[116, 97, 115, 107]⟩
abbrev b'74 : ByteArray := ⟨#[117, 110, 116, 105, 108]⟩
abbrev b'75 : ByteArray := ⟨#[119, 104, 101, 110]⟩
abbrev b'76 : ByteArray := ⟨#[119, 104, 105, 108, 101]⟩
abbrev b'77 : ByteArray := ⟨#[120, 111, 114, 110]⟩
abbrev b'78 : ByteArray := ⟨#[120, 111, 114]⟩
abbrev b'79 : ByteArray := ⟨#[40]⟩
abbrev b'80 : ByteArray := ⟨#[41]⟩
abbrev b'81 : ByteArray := ⟨#[42]⟩
abbrev b'82 : ByteArray := ⟨#[43]⟩
abbrev b'83 : ByteArray := ⟨#[44]⟩
abbrev b'84 : ByteArray := ⟨#[45]⟩
abbrev b'85 : ByteArray := ⟨#[46]⟩
abbrev b'86 : ByteArray := ⟨#[47]⟩
abbrev b'87 : ByteArray := ⟨#[58, 61]⟩
abbrev b'88 : ByteArray := ⟨#[58]⟩
abbrev b'89 : ByteArray := ⟨#[59]⟩
abbrev b'90 : ByteArray := ⟨#[60, 61]⟩
abbrev b'91 : ByteArray := ⟨#[60, 62]⟩
abbrev b'92 : ByteArray := ⟨#[60]⟩
abbrev b'93 : ByteArray := ⟨#[61]⟩
abbrev b'94 : ByteArray := ⟨#[62, 61]⟩
abbrev b'95 : ByteArray := ⟨#[62]⟩
abbrev b'96 : ByteArray := ⟨#[91]⟩
abbrev b'97 : ByteArray := ⟨#[93]⟩
abbrev b'98 : ByteArray := ⟨#[97, 100, 100]⟩
abbrev b'99 : ByteArray := ⟨#[97, 110, 100, 110]⟩
abbrev b'100 : ByteArray := ⟨#[97, 110, 100]⟩
abbrev b'101 : ByteArray := ⟨#[97, 116]⟩
abbrev b'102 : ByteArray := ⟨#[98, 108, 111, 99, 107]⟩
abbrev b'103 : ByteArray := ⟨#[98, 111, 111, 108]⟩
abbrev b'104 : ByteArray := ⟨#[98, 111, 120]⟩
abbrev b'105 : ByteArray := ⟨#[98, 121]⟩
abbrev b'106 : ByteArray := ⟨#[99, 97, 108, 99, 110]⟩
abbrev b'107 : ByteArray := ⟨#[99, 97, 108, 99]⟩
abbrev b'108 : ByteArray := ⟨#[99, 97, 108]⟩
abbrev b'109 : ByteArray := ⟨#[99, 97, 115, 101]⟩
abbrev Z1e : ByteArray := ⟨#[]⟩
def Z8q (φ : (List Ex) → Int → Option Int) : Prop := ∀ ⦃xs1 : List Ex⦄ ⦃x4 : Int⦄ ⦃r : Int⦄, φ xs1 x4 = some r → ∀ ⦃w0 : World⦄ ⦃h0 : Hp⦄ ⦃v2 : Value⦄, Sub h0 w0 → RS h0 v2 xs1 →
  Calls Tryz.prog 26 #[v2, .int .i64 x4] w0 fun e w1 => ∃ v, e = .returned v ∧ ∃ h1, Stp [] w0 h0 w1 h1 ∧ v = .int .i64 r
theorem s_law02_weighExprs (k : Nat) (IH : ∀ j, j ≤ k → Z8q (Z11 j).law02_weighExprs) : Z8q (Z5d k (Z11 k)) := by
 intro xs1 x4 r HF w0 h0 v2 hs0 rs3
 have S0 : Stp [] w0 h0 w0 h0 := Stp.refl hs0 _
 refine Z4o (n := 32) Tryz.func26 rfl Tryz.ntmps26 rfl [(0, v2), (1, vi x4)] rfl <| Zc <| Z0 <| Wa rfl rfl <| Z6 <| Z4 <| Z09 (fun E w7 => ∃ (h6 : Hp), Zb2 k (Z11 k) xs1 x4 = some r ∧ E = [(0, v2), (1, vi x4)] ∧ Stp [] w0 h0 w7 h6 ∧ Hle h0 h6) ?_ ?_
 ·rintro E w7 ⟨h6, HF, rfl, S9, le8⟩
  refine Zc <| Z0 <| Wm rfl rfl ?_
  obtain ⟨A10, c11, rfl, rs12⟩ := RS.form (rs3.mono (le8))
  refine Wv rfl (Z1i rfl Z0v) <| Wa rfl rfl <| Z6 <| Z4 <| Zc <| Zc <| Z0 <| Wa rfl rfl <| Z6 <| Z4 <| Z0r <| Z5v <| Z99 [0, 1, 5, 6] [(0, .slice A10 (xs1).length c11), (1, vi x4), (5, vi (xs1.length : Int)), (6, vi 0)] rfl <| Z5u (K := k) (fun j E w14 => ∃ (h13 : Hp) (x17 : Int) (x18 : Int), (Z11 j).law02_weighExprs_l2 xs1 x4 x17 x18 = some r ∧ E = [(0, .slice A10 (xs1).length c11), (1, vi x4), (5, vi x17), (6, vi x18)] ∧ Stp [] w0 h0 w14 h13 ∧ Hle h6 h13) ?_ ?_ (j := k) (Nat.le_refl _) ?_
  ·rintro E w14 ⟨_, _, _, HF, _⟩; cases HF
  ·rintro j19 hj21 IHL20 E w14 ⟨h13, x17, x18, HF, rfl, S16, le15⟩
   refine Z09 (fun E w31 => ∃ (h30 : Hp), Zac j19 (Z11 j19) xs1 x4 x17 x18 = some r ∧ E = [(0, .slice A10 (xs1).length c11), (1, vi x4), (5, vi x17), (6, vi x18)] ∧ Stp [] w0 h0 w31 h30 ∧ Hle h13 h30) ?_ ?_
   ·rintro E w31 ⟨h30, HF, rfl, S33, le32⟩
    refine Zc <| Z0r <| Z0 <| Wm rfl rfl <| Wm rfl rfl <| Wm rfl rfl ?_
    obtain ⟨e34, he35, HF⟩ := Z5 HF
    obtain ⟨b36, o37, rfl, h39, h40, ra38⟩ := RS.atO (rs12.mono ((le15).trans le32)) he35
    obtain ⟨cs41, r42, hc43⟩ := ra38
    refine Wv rfl (Z1p rfl rfl Z0v Z0l h39 h40) <| Wv rfl (Z1 rfl Z5i) ?_
    obtain ⟨v44, rfl, rs45⟩ := Zab.1 r42
    refine Wv rfl (Zb rfl Z31 (S33.sub.at_ _ _ _ (hc43 5 _ rfl))) <| Wm rfl rfl <| Wv rfl (Z3e rfl rfl) ?_
    obtain ⟨r46, hr47, HF⟩ := Z5 HF
    refine Wc rfl (Zd (vs := [v44, vi (IntKind.i64.wrap (x4 + 1))]) rfl t_ent_26) ((IH _ (Nat.le_trans (Nat.le_of_succ_le hj21) (Nat.le_refl _))) hr47 S33.sub rs45) ?_
    rintro _ w49 ⟨h50, s51, rfl⟩
    have S52 := S33.trans0 s51
    refine Wv rfl (Z3e rfl rfl) <| Wa rfl rfl <| Z6 <| Zy <| Z4 <| Z0 <| Wm rfl rfl <| Wv rfl (Z3e rfl rfl) <| Wa rfl rfl <| Z6 <| Z2p <| Z99 [0, 1, 5, 6] [(0, sl b36 o37 (xs1).length c11), (1, vi x4), (5, vi (IntKind.i64.wrap (x17 + r46))), (6, vi (IntKind.i64.wrap (x18 + 1)))] rfl ?_
    exact IHL20 j19 (Nat.le_refl _) _ _ ⟨h50, IntKind.i64.wrap (x17 + r46), IntKind.i64.wrap (x18 + 1), HF, rfl, S52, (le15).trans ((le32).trans s51.le)⟩
   intro J53
   refine Z09 (fun E w24 => ∃ (h23 : Hp) (x27 : Bool), Z4j j19 (Z11 j19) xs1 x4 x17 x18 x27 = some r ∧ E = [(0, .slice A10 (xs1).length c11), (1, vi x4), (5, vi x17), (6, vi x18), (18, .bool x27)] ∧ Stp [] w0 h0 w24 h23 ∧ Hle h13 h23) ?_ ?_
   ·rintro E w24 ⟨h23, x27, HF, rfl, S26, le25⟩
    refine Z15 HF rfl (fun HF => ?_) (fun HF => ?_)
    ·refine Zq <| Z01 [0, 1, 5, 6] _ rfl ?_
     exact J53 ⟨h23, HF, rfl, S26, le25⟩
    refine Z66 <| Z05 <| Z05 <| Z1m <| Z4 <| Zc <| Z0 <| Wm rfl rfl <| Wa rfl rfl <| Z6 <| Z4 <| Z0b <| Z07 rfl rfl ?_
    obtain rfl := Option.some.inj HF
    exact ⟨_, rfl, h23, S26, rfl⟩
   intro J29
   refine Z0 <| Wm rfl rfl <| Wm rfl rfl <| Wv rfl (Z1i rfl Z0v) <| Wv rfl (Zdk rfl rfl) <| Wm rfl rfl <| Z27 15 HF rfl (fun HF => ?_) (fun HF => ?_)
   ·refine Wm rfl rfl <| Wv rfl (Zh1 rfl rfl) <| Wv rfl (Zj rfl rfl) <| Z6 <| Z01 [0, 1, 5, 6, 18] _ rfl ?_
    exact J29 ⟨h13, decide ((x17 : Int) ≤ 2000), HF, rfl, S16, Hle.refl _⟩
   refine Wp rfl <| Wp rfl <| Wv rfl (Zi rfl rfl) <| Z6 <| Z01 [0, 1, 5, 6, 18] _ rfl ?_
   exact J29 ⟨h13, false, HF, rfl, S16, Hle.refl _⟩
  exact ⟨h6, (xs1.length : Int), 0, HF, rfl, S9, Hle.refl _⟩
 intro J54
 refine Zc <| Z0 <| Wm rfl rfl <| Wv rfl (Zby rfl rfl) <| Z6 <| Z4 <| Z15 HF rfl (fun HF => ?_) (fun HF => ?_)
 ·refine Zc <| Z0 <| Wa rfl rfl <| Z6 <| Z4 <| Z0b <| Zv <| Z07 rfl rfl ?_
  obtain rfl := Option.some.inj HF
  exact ⟨_, rfl, h0, S0, rfl⟩
 refine Zq <| Z01 [0, 1] _ rfl ?_
 exact J54 ⟨h0, HF, rfl, S0, Hle.refl _⟩
theorem all_law02_weighExprs : ∀ k j, j ≤ k → Z8q (Z11 j).law02_weighExprs := by
  intro k
  induction k with
  | zero =>
    intro j hj
    obtain rfl : j = 0 := by omega
    exact (fun _ _ _ => by intro h; cases h)
  | succ k ih =>
    intro j hj
    by_cases h : j ≤ k
    · exact ih j h
    · obtain rfl : j = k + 1 := by omega
      exact s_law02_weighExprs k ih
theorem Zas (k : Nat) : Z8q (Z1t k) := (all_law02_weighExprs k k (Nat.le_refl _))
def Zel (φ : (List St) → Int → Option Int) : Prop := ∀ ⦃xs1 : List St⦄ ⦃x4 : Int⦄ ⦃r : Int⦄, φ xs1 x4 = some r → ∀ ⦃w0 : World⦄ ⦃h0 : Hp⦄ ⦃v2 : Value⦄, Sub h0 w0 → RS h0 v2 xs1 →
  Calls Tryz.prog 42 #[v2, .int .i64 x4] w0 fun e w1 => ∃ v, e = .returned v ∧ ∃ h1, Stp [] w0 h0 w1 h1 ∧ v = .int .i64 r
theorem s_law02_weigh (k : Nat) (IH : ∀ j, j ≤ k → Zel (Z12 j).law02_weigh) : Zel (Za2 k (Z12 k)) := by
 intro xs1 x4 r HF w0 h0 v2 hs0 rs3
 have S0 : Stp [] w0 h0 w0 h0 := Stp.refl hs0 _
 refine Z4o (n := 110) Tryz.func42 rfl Tryz.ntmps42 rfl [(0, v2), (1, vi x4)] rfl <| Zc <| Z0 <| Wa rfl rfl <| Z6 <| Z4 <| Z09 (fun E w7 => ∃ (h6 : Hp), Zg6 k (Z12 k) xs1 x4 = some r ∧ E = [(0, v2), (1, vi x4)] ∧ Stp [] w0 h0 w7 h6 ∧ Hle h0 h6) ?_ ?_
 ·rintro E w7 ⟨h6, HF, rfl, S9, le8⟩
  refine Zc <| Z0 <| Wm rfl rfl ?_
  obtain ⟨A10, c11, rfl, rs12⟩ := RS.form (rs3.mono (le8))
  refine Wv rfl (Z1i rfl Z24) <| Wa rfl rfl <| Z6 <| Z4 <| Zc <| Zc <| Z0 <| Wa rfl rfl <| Z6 <| Z4 <| Z0r <| Z5v <| Z99 [0, 1, 5, 6] [(0, .slice A10 (xs1).length c11), (1, vi x4), (5, vi (xs1.length : Int)), (6, vi 0)] rfl <| Z5u (K := k) (fun j E w14 => ∃ (h13 : Hp) (x17 : Int) (x18 : Int), (Z12 j).law02_weigh_l2 xs1 x4 x17 x18 = some r ∧ E = [(0, .slice A10 (xs1).length c11), (1, vi x4), (5, vi x17), (6, vi x18)] ∧ Stp [] w0 h0 w14 h13 ∧ Hle h6 h13) ?_ ?_ (j := k) (Nat.le_refl _) ?_
  ·rintro E w14 ⟨_, _, _, HF, _⟩; cases HF
  ·rintro j19 hj21 IHL20 E w14 ⟨h13, x17, x18, HF, rfl, S16, le15⟩
   refine Z09 (fun E w31 => ∃ (h30 : Hp), Zge j19 (Z12 j19) xs1 x4 x17 x18 = some r ∧ E = [(0, .slice A10 (xs1).length c11), (1, vi x4), (5, vi x17), (6, vi x18)] ∧ Stp [] w0 h0 w31 h30 ∧ Hle h13 h30) ?_ ?_
   ·rintro E w31 ⟨h30, HF, rfl, S33, le32⟩
    refine Zc <| Z0r <| Zc ?_
    obtain ⟨e34, he35, HF⟩ := Z5 HF
    obtain ⟨b36, o37, rfl, h39, h40, ra38⟩ := RS.atO (rs12.mono ((le15).trans le32)) he35
    obtain ⟨cs41, r42, hc43⟩ := ra38
    obtain ⟨v44, v46, v48, v50, v52, v54, rfl, rs45, rs47, rs49, rs51, rs53, rs55⟩ := rp_St.1 r42
    obtain ⟨r56, hr57, HF⟩ := Z5 HF
    obtain ⟨e58, he59, HF⟩ := Z5 HF
    obtain ⟨b60, o61, hA, h63, h64, ra62⟩ := RS.atO (rs12.mono ((le15).trans le32)) he59
    obtain ⟨rfl, rfl⟩ := Zh0 hA
    obtain ⟨cs65, r66, hc67⟩ := ra62
    obtain ⟨v68, v70, v72, v74, v76, v78, rfl, rs69, rs71, rs73, rs75, rs77, rs79⟩ := rp_St.1 r66
    obtain ⟨r80, hr81, HF⟩ := Z5 HF
    obtain ⟨e82, he83, HF⟩ := Z5 HF
    obtain ⟨b84, o85, hA, h87, h88, ra86⟩ := RS.atO (rs12.mono ((le15).trans le32)) he83
    obtain ⟨rfl, rfl⟩ := Zh0 hA
    obtain ⟨cs89, r90, hc91⟩ := ra86
    obtain ⟨v92, v94, v96, v98, v100, v102, rfl, rs93, rs95, rs97, rs99, rs101, rs103⟩ := rp_St.1 r90
    obtain ⟨r104, hr105, HF⟩ := Z5 HF
    obtain ⟨e106, he107, HF⟩ := Z5 HF
    obtain ⟨b108, o109, hA, h111, h112, ra110⟩ := RS.atO (rs12.mono ((le15).trans le32)) he107
    obtain ⟨rfl, rfl⟩ := Zh0 hA
    obtain ⟨cs113, r114, hc115⟩ := ra110
    obtain ⟨v116, v118, v120, v122, v124, v126, rfl, rs117, rs119, rs121, rs123, rs125, rs127⟩ := rp_St.1 r114
    obtain ⟨r128, hr129, HF⟩ := Z5 HF
    refine Z51 (m := 34) [(0, sl b36 o37 (xs1).length c11), (1, vi x4), (5, vi x17), (6, vi x18)] [0, 1, 5, 6] rfl (fun i v w h => match i with | 0 => v = vi x17 | 1 => v = sl b36 o37 (xs1).length c11 | 2 => v = vi x18 | 3 => v = pt b36 (o37 + Int.toNat x18 * 10) | 4 => v = pt b36 (o37 + Int.toNat x18 * 10 + 2) | 5 => v = v44 | 6 => v = vi x4 | 7 => v = vi r56 | 8 => v = vi (IntKind.i64.wrap (x17 + r56)) | 9 => v = sl b36 o37 (xs1).length c11 | 10 => v = vi x18 | 11 => v = pt b36 (o37 + Int.toNat x18 * 10) | 12 => v = pt b36 (o37 + Int.toNat x18 * 10 + 4) | 13 => v = v72 | 14 => v = vi x4 | 15 => v = vi r80 | 16 => v = vi (IntKind.i64.wrap ((IntKind.i64.wrap (x17 + r56)) + r80)) | 17 => v = sl b36 o37 (xs1).length c11 | 18 => v = vi x18 | 19 => v = pt b36 (o37 + Int.toNat x18 * 10) | 20 => v = pt b36 (o37 + Int.toNat x18 * 10 + 6) | 21 => v = v98 | 22 => v = vi x4 | 23 => v = vi (IntKind.i64.wrap (x4 + 1)) | 24 => v = vi r104 | 25 => v = vi (IntKind.i64.wrap ((IntKind.i64.wrap ((IntKind.i64.wrap (x17 + r56)) + r80)) + r104)) | 26 => v = sl b36 o37 (xs1).length c11 | 27 => v = vi x18 | 28 => v = pt b36 (o37 + Int.toNat x18 * 10) | 29 => v = pt b36 (o37 + Int.toNat x18 * 10 + 8) | 30 => v = v126 | 31 => v = vi x4 | 32 => v = vi (IntKind.i64.wrap (x4 + 1)) | 33 => v = vi r128 | _ => True) Z6h S33.sub rfl rfl rfl rfl rfl ?_ ?_ ?_
    ·intro i v w h w2 h2 hΦ hst
     match i, hΦ with
     | 0, hΦ | 1, hΦ | 2, hΦ | 3, hΦ | 4, hΦ | 5, hΦ | 6, hΦ | 7, hΦ | 8, hΦ | 9, hΦ | 10, hΦ | 11, hΦ | 12, hΦ | 13, hΦ | 14, hΦ | 15, hΦ | 16, hΦ | 17, hΦ | 18, hΦ | 19, hΦ | 20, hΦ | 21, hΦ | 22, hΦ | 23, hΦ | 24, hΦ | 25, hΦ | 26, hΦ | 27, hΦ | 28, hΦ | 29, hΦ | 30, hΦ | 31, hΦ | 32, hΦ | 33, hΦ => exact hΦ
     | i + 34, _ => exact trivial
    ·refine ⟨?_, ?_, ?_, ?_, ?_, ?_, ?_, ?_, ?_, ?_, ?_, ?_, ?_, ?_, ?_, ?_, ?_, ?_, ?_, ?_, ?_, ?_, ?_, ?_, ?_, ?_, ?_, ?_, ?_, ?_, ?_, ?_, ?_, ?_, trivial⟩
     ·intro a w130 h131 s132 hat hF
      exact Za hat rfl (Z0t rfl) s132.sub (by exact rfl)
     ·intro a w130 h131 s132 hat hF
      exact Za hat rfl (Z0t rfl) s132.sub (by exact rfl)
     ·intro a w130 h131 s132 hat hF
      exact Za hat rfl (Z0t rfl) s132.sub (by exact rfl)
     ·intro a w130 h131 s132 hat hF
      exact Za (Z7 (Z7 hat (hF 1 23 rfl rfl)) (hF 2 24 rfl rfl)) rfl (Z1p rfl rfl Z24 Z0u h39 h40) s132.sub (by exact rfl)
     ·intro a w130 h131 s132 hat hF
      exact Za (Z7 hat (hF 3 25 rfl rfl)) rfl (Z1 rfl Z8d) s132.sub (by exact rfl)
     ·intro a w130 h131 s132 hat hF
      exact Za (Z7 hat (hF 4 26 rfl rfl)) rfl (Zb rfl Z31 (s132.sub.at_ _ _ _ ((fun i v hv => (s132.le).1 _ _ _ (hc43 i v hv)) 2 _ rfl))) s132.sub (by exact rfl)
     ·intro a w130 h131 s132 hat hF
      exact Za hat rfl (Z0t rfl) s132.sub (by exact rfl)
     ·intro a w130 h131 s132 hat hF
      refine Zfl (Z7 (Z7 hat (hF 5 27 rfl rfl)) (hF 6 28 rfl rfl)) rfl (Zd (vs := [v44, vi x4]) rfl t_ent_26) (Zas _ hr57 s132.sub (rs45.mono (s132.le))) ?_
      rintro _ w133 ⟨h134, s135, rfl⟩
      exact ⟨_, h134, rfl, s135, (by exact rfl)⟩
     ·intro a w130 h131 s132 hat hF
      exact Za (Z7 (Z7 hat (hF 0 22 rfl rfl)) (hF 7 29 rfl rfl)) rfl (Z3e rfl rfl) s132.sub (by exact rfl)
     ·intro a w130 h131 s132 hat hF
      exact Za hat rfl (Z0t rfl) s132.sub (by exact rfl)
     ·intro a w130 h131 s132 hat hF
      exact Za hat rfl (Z0t rfl) s132.sub (by exact rfl)
     ·intro a w130 h131 s132 hat hF
      exact Za (Z7 (Z7 hat (hF 9 31 rfl rfl)) (hF 10 32 rfl rfl)) rfl (Z1p rfl rfl Z24 Z0u h63 h64) s132.sub (by exact rfl)
     ·intro a w130 h131 s132 hat hF
      exact Za (Z7 hat (hF 11 33 rfl rfl)) rfl (Z1 rfl Z3u) s132.sub (by exact rfl)
     ·intro a w130 h131 s132 hat hF
      exact Za (Z7 hat (hF 12 34 rfl rfl)) rfl (Zb rfl Z31 (s132.sub.at_ _ _ _ ((fun i v hv => (s132.le).1 _ _ _ (hc67 i v hv)) 4 _ rfl))) s132.sub (by exact rfl)
     ·intro a w130 h131 s132 hat hF
      exact Za hat rfl (Z0t rfl) s132.sub (by exact rfl)
     ·intro a w130 h131 s132 hat hF
      refine Zfl (Z7 (Z7 hat (hF 13 35 rfl rfl)) (hF 14 36 rfl rfl)) rfl (Zd (vs := [v72, vi x4]) rfl t_ent_26) (Zas _ hr81 s132.sub (rs73.mono (s132.le))) ?_
      rintro _ w136 ⟨h137, s138, rfl⟩
      exact ⟨_, h137, rfl, s138, (by exact rfl)⟩
     ·intro a w130 h131 s132 hat hF
      exact Za (Z7 (Z7 hat (hF 8 30 rfl rfl)) (hF 15 37 rfl rfl)) rfl (Z3e rfl rfl) s132.sub (by exact rfl)
     ·intro a w130 h131 s132 hat hF
      exact Za hat rfl (Z0t rfl) s132.sub (by exact rfl)
     ·intro a w130 h131 s132 hat hF
      exact Za hat rfl (Z0t rfl) s132.sub (by exact rfl)
     ·intro a w130 h131 s132 hat hF
      exact Za (Z7 (Z7 hat (hF 17 39 rfl rfl)) (hF 18 40 rfl rfl)) rfl (Z1p rfl rfl Z24 Z0u h87 h88) s132.sub (by exact rfl)
     ·intro a w130 h131 s132 hat hF
      exact Za (Z7 hat (hF 19 41 rfl rfl)) rfl (Z1 rfl Z84) s132.sub (by exact rfl)
     ·intro a w130 h131 s132 hat hF
      exact Za (Z7 hat (hF 20 42 rfl rfl)) rfl (Zb rfl Z5q (s132.sub.at_ _ _ _ ((fun i v hv => (s132.le).1 _ _ _ (hc91 i v hv)) 6 _ rfl))) s132.sub (by exact rfl)
     ·intro a w130 h131 s132 hat hF
      exact Za hat rfl (Z0t rfl) s132.sub (by exact rfl)
     ·intro a w130 h131 s132 hat hF
      exact Za (Z7 hat (hF 22 44 rfl rfl)) rfl (Z3e rfl rfl) s132.sub (by exact rfl)
     ·intro a w130 h131 s132 hat hF
      refine Zfl (Z7 (Z7 hat (hF 21 43 rfl rfl)) (hF 23 45 rfl rfl)) rfl (Zd (vs := [v98, vi (IntKind.i64.wrap (x4 + 1))]) rfl t_ent_42) ((IH _ (Nat.le_trans (Nat.le_of_succ_le hj21) (Nat.le_refl _))) hr105 s132.sub (rs99.mono (s132.le))) ?_
      rintro _ w139 ⟨h140, s141, rfl⟩
      exact ⟨_, h140, rfl, s141, (by exact rfl)⟩
     ·intro a w130 h131 s132 hat hF
      exact Za (Z7 (Z7 hat (hF 16 38 rfl rfl)) (hF 24 46 rfl rfl)) rfl (Z3e rfl rfl) s132.sub (by exact rfl)
     ·intro a w130 h131 s132 hat hF
      exact Za hat rfl (Z0t rfl) s132.sub (by exact rfl)
     ·intro a w130 h131 s132 hat hF
      exact Za hat rfl (Z0t rfl) s132.sub (by exact rfl)
     ·intro a w130 h131 s132 hat hF
      exact Za (Z7 (Z7 hat (hF 26 48 rfl rfl)) (hF 27 49 rfl rfl)) rfl (Z1p rfl rfl Z24 Z0u h111 h112) s132.sub (by exact rfl)
     ·intro a w130 h131 s132 hat hF
      exact Za (Z7 hat (hF 28 50 rfl rfl)) rfl (Z1 rfl Z3s) s132.sub (by exact rfl)
     ·intro a w130 h131 s132 hat hF
      exact Za (Z7 hat (hF 29 51 rfl rfl)) rfl (Zb rfl Z5q (s132.sub.at_ _ _ _ ((fun i v hv => (s132.le).1 _ _ _ (hc115 i v hv)) 8 _ rfl))) s132.sub (by exact rfl)
     ·intro a w130 h131 s132 hat hF
      exact Za hat rfl (Z0t rfl) s132.sub (by exact rfl)
     ·intro a w130 h131 s132 hat hF
      exact Za (Z7 hat (hF 31 53 rfl rfl)) rfl (Z3e rfl rfl) s132.sub (by exact rfl)
     intro a w130 h131 s132 hat hF
     refine Zfl (Z7 (Z7 hat (hF 30 52 rfl rfl)) (hF 32 54 rfl rfl)) rfl (Zd (vs := [v126, vi (IntKind.i64.wrap (x4 + 1))]) rfl t_ent_42) ((IH _ (Nat.le_trans (Nat.le_of_succ_le hj21) (Nat.le_refl _))) hr129 s132.sub (rs127.mono (s132.le))) ?_
     rintro _ w142 ⟨h143, s144, rfl⟩
     exact ⟨_, h143, rfl, s144, (by exact rfl)⟩
    intro a w130 h131 s132 hat hF
    obtain hv0 := hF 0 22 (by decide) rfl
    obtain hv1 := hF 1 23 (by decide) rfl
    obtain hv2 := hF 2 24 (by decide) rfl
    obtain hv3 := hF 3 25 (by decide) rfl
    obtain hv4 := hF 4 26 (by decide) rfl
    obtain hv5 := hF 5 27 (by decide) rfl
    obtain hv6 := hF 6 28 (by decide) rfl
    obtain hv7 := hF 7 29 (by decide) rfl
    obtain hv8 := hF 8 30 (by decide) rfl
    obtain hv9 := hF 9 31 (by decide) rfl
    obtain hv10 := hF 10 32 (by decide) rfl
    obtain hv11 := hF 11 33 (by decide) rfl
    obtain hv12 := hF 12 34 (by decide) rfl
    obtain hv13 := hF 13 35 (by decide) rfl
    obtain hv14 := hF 14 36 (by decide) rfl
    obtain hv15 := hF 15 37 (by decide) rfl
    obtain hv16 := hF 16 38 (by decide) rfl
    obtain hv17 := hF 17 39 (by decide) rfl
    obtain hv18 := hF 18 40 (by decide) rfl
    obtain hv19 := hF 19 41 (by decide) rfl
    obtain hv20 := hF 20 42 (by decide) rfl
    obtain hv21 := hF 21 43 (by decide) rfl
    obtain hv22 := hF 22 44 (by decide) rfl
    obtain hv23 := hF 23 45 (by decide) rfl
    obtain hv24 := hF 24 46 (by decide) rfl
    obtain hv25 := hF 25 47 (by decide) rfl
    obtain hv26 := hF 26 48 (by decide) rfl
    obtain hv27 := hF 27 49 (by decide) rfl
    obtain hv28 := hF 28 50 (by decide) rfl
    obtain hv29 := hF 29 51 (by decide) rfl
    obtain hv30 := hF 30 52 (by decide) rfl
    obtain hv31 := hF 31 53 (by decide) rfl
    obtain hv32 := hF 32 54 (by decide) rfl
    obtain hv33 := hF 33 55 (by decide) rfl
    refine Zdh [(55, vi r128), (54, vi (IntKind.i64.wrap (x4 + 1))), (53, vi x4), (52, v126), (51, pt b36 (o37 + Int.toNat x18 * 10 + 8)), (50, pt b36 (o37 + Int.toNat x18 * 10)), (49, vi x18), (48, sl b36 o37 (xs1).length c11), (47, vi (IntKind.i64.wrap ((IntKind.i64.wrap ((IntKind.i64.wrap (x17 + r56)) + r80)) + r104))), (46, vi r104), (45, vi (IntKind.i64.wrap (x4 + 1))), (44, vi x4), (43, v98), (42, pt b36 (o37 + Int.toNat x18 * 10 + 6)), (41, pt b36 (o37 + Int.toNat x18 * 10)), (40, vi x18), (39, sl b36 o37 (xs1).length c11), (38, vi (IntKind.i64.wrap ((IntKind.i64.wrap (x17 + r56)) + r80))), (37, vi r80), (36, vi x4), (35, v72), (34, pt b36 (o37 + Int.toNat x18 * 10 + 4)), (33, pt b36 (o37 + Int.toNat x18 * 10)), (32, vi x18), (31, sl b36 o37 (xs1).length c11), (30, vi (IntKind.i64.wrap (x17 + r56))), (29, vi r56), (28, vi x4), (27, v44), (26, pt b36 (o37 + Int.toNat x18 * 10 + 2)), (25, pt b36 (o37 + Int.toNat x18 * 10)), (24, vi x18), (23, sl b36 o37 (xs1).length c11), (22, vi x17), (0, sl b36 o37 (xs1).length c11), (1, vi x4), (5, vi x17), (6, vi x18)] (Z7 (Z7 (Z7 (Z7 (Z7 (Z7 (Z7 (Z7 (Z7 (Z7 (Z7 (Z7 (Z7 (Z7 (Z7 (Z7 (Z7 (Z7 (Z7 (Z7 (Z7 (Z7 (Z7 (Z7 (Z7 (Z7 (Z7 (Z7 (Z7 (Z7 (Z7 (Z7 (Z7 (Z7 hat hv0) hv1) hv2) hv3) hv4) hv5) hv6) hv7) hv8) hv9) hv10) hv11) hv12) hv13) hv14) hv15) hv16) hv17) hv18) hv19) hv20) hv21) hv22) hv23) hv24) hv25) hv26) hv27) hv28) hv29) hv30) hv31) hv32) hv33) ?_
    have S145 := S33.trans0 s132
    refine Wv rfl (Z3e rfl rfl) <| Wa rfl rfl <| Z6 <| Z4 <| Zc <| Z0 <| Wa rfl rfl <| Z6 <| Z4 <| Z0r <| Z5v <| Z99 [0, 1, 5, 6, 7] [(0, sl b36 o37 (xs1).length c11), (1, vi x4), (5, vi (IntKind.i64.wrap ((IntKind.i64.wrap ((IntKind.i64.wrap ((IntKind.i64.wrap (x17 + r56)) + r80)) + r104)) + r128))), (6, vi x18), (7, vi 0)] rfl <| Z5u (K := j19) (fun j E w147 => ∃ (h146 : Hp) (x150 : Int) (x151 : Int), (Z12 j).law02_weigh_l5 xs1 x4 x18 x150 x151 = some r ∧ E = [(0, sl b36 o37 (xs1).length c11), (1, vi x4), (5, vi x150), (6, vi x18), (7, vi x151)] ∧ Stp [] w0 h0 w147 h146 ∧ Hle h131 h146) ?_ ?_ (j := j19) (Nat.le_refl _) ?_
    ·rintro E w147 ⟨_, _, _, HF, _⟩; cases HF
    ·rintro j152 hj154 IHL153 E w147 ⟨h146, x150, x151, HF, rfl, S149, le148⟩
     refine Z09 (fun E w189 => ∃ (h188 : Hp), Zgz j152 (Z12 j152) xs1 x4 x18 x150 x151 = some r ∧ E = [(0, sl b36 o37 (xs1).length c11), (1, vi x4), (5, vi x150), (6, vi x18), (7, vi x151)] ∧ Stp [] w0 h0 w189 h188 ∧ Hle h146 h188) ?_ ?_
     ·rintro E w189 ⟨h188, HF, rfl, S191, le190⟩
      refine Zc <| Z0r ?_
      obtain ⟨e192, he193, HF⟩ := Z5 HF
      obtain ⟨b194, o195, hA, h197, h198, ra196⟩ := RS.atO (rs12.mono ((le15).trans ((le32).trans ((s132.le).trans ((le148).trans le190))))) he193
      obtain ⟨rfl, rfl⟩ := Zh0 hA
      obtain ⟨cs199, r200, hc201⟩ := ra196
      obtain ⟨v202, v204, v206, v208, v210, v212, rfl, rs203, rs205, rs207, rs209, rs211, rs213⟩ := rp_St.1 r200
      obtain ⟨A214, c215, rfl, rs216⟩ := RS.form rs211
      obtain ⟨e217, he218, HF⟩ := Z5 HF
      obtain ⟨b219, o220, rfl, h222, h223, ra221⟩ := RS.atO rs216 he218
      obtain ⟨cs224, r225, hc226⟩ := ra221
      obtain ⟨v227, v229, v231, rfl, rs228, rs230, rs232⟩ := rp_Ar.1 r225
      obtain ⟨A233, c234, rfl, rs235⟩ := RS.form rs230
      obtain ⟨e236, he237, HF⟩ := Z5 HF
      obtain ⟨b238, o239, hA, h241, h242, ra240⟩ := RS.atO (rs12.mono ((le15).trans ((le32).trans ((s132.le).trans ((le148).trans le190))))) he237
      obtain ⟨rfl, rfl⟩ := Zh0 hA
      obtain ⟨cs243, r244, hc245⟩ := ra240
      obtain ⟨v246, v248, v250, v252, v254, v256, rfl, rs247, rs249, rs251, rs253, rs255, rs257⟩ := rp_St.1 r244
      obtain ⟨A258, c259, rfl, rs260⟩ := RS.form rs255
      obtain ⟨e261, he262, HF⟩ := Z5 HF
      obtain ⟨b263, o264, rfl, h266, h267, ra265⟩ := RS.atO rs260 he262
      obtain ⟨cs268, r269, hc270⟩ := ra265
      obtain ⟨v271, v273, v275, rfl, rs272, rs274, rs276⟩ := rp_Ar.1 r269
      obtain ⟨r277, hr278, HF⟩ := Z5 HF
      obtain ⟨e279, he280, HF⟩ := Z5 HF
      obtain ⟨b281, o282, hA, h284, h285, ra283⟩ := RS.atO (rs12.mono ((le15).trans ((le32).trans ((s132.le).trans ((le148).trans le190))))) he280
      obtain ⟨rfl, rfl⟩ := Zh0 hA
      obtain ⟨cs286, r287, hc288⟩ := ra283
      obtain ⟨v289, v291, v293, v295, v297, v299, rfl, rs290, rs292, rs294, rs296, rs298, rs300⟩ := rp_St.1 r287
      obtain ⟨A301, c302, rfl, rs303⟩ := RS.form rs298
      obtain ⟨e304, he305, HF⟩ := Z5 HF
      obtain ⟨b306, o307, rfl, h309, h310, ra308⟩ := RS.atO rs303 he305
      obtain ⟨cs311, r312, hc313⟩ := ra308
      obtain ⟨v314, v316, v318, rfl, rs315, rs317, rs319⟩ := rp_Ar.1 r312
      obtain ⟨r320, hr321, HF⟩ := Z5 HF
      refine Z51 (m := 37) [(0, sl b36 o37 (xs1).length c11), (1, vi x4), (5, vi x150), (6, vi x18), (7, vi x151)] [0, 1, 5, 6, 7] rfl (fun i v w h => match i with | 0 => v = vi x150 | 1 => v = vi (IntKind.i64.wrap (x150 + 1)) | 2 => v = sl b36 o37 (xs1).length c11 | 3 => v = vi x18 | 4 => v = pt b36 (o37 + Int.toNat x18 * 10) | 5 => v = pt b36 (o37 + Int.toNat x18 * 10 + 7) | 6 => v = sl b219 o220 (e192.arms).length c215 | 7 => v = vi x151 | 8 => v = pt b219 (o220 + Int.toNat x151 * 3) | 9 => v = pt b219 (o220 + Int.toNat x151 * 3 + 1) | 10 => v = .slice A233 (e217.labels).length c234 | 11 => v = vi (e217.labels.length : Int) | 12 => v = vi (IntKind.i64.wrap ((IntKind.i64.wrap (x150 + 1)) + (e217.labels.length : Int))) | 13 => v = sl b36 o37 (xs1).length c11 | 14 => v = vi x18 | 15 => v = pt b36 (o37 + Int.toNat x18 * 10) | 16 => v = pt b36 (o37 + Int.toNat x18 * 10 + 7) | 17 => v = sl b263 o264 (e236.arms).length c259 | 18 => v = vi x151 | 19 => v = pt b263 (o264 + Int.toNat x151 * 3) | 20 => v = pt b263 (o264 + Int.toNat x151 * 3) | 21 => v = v271 | 22 => v = vi x4 | 23 => v = vi r277 | 24 => v = vi (IntKind.i64.wrap ((IntKind.i64.wrap ((IntKind.i64.wrap (x150 + 1)) + (e217.labels.length : Int))) + r277)) | 25 => v = sl b36 o37 (xs1).length c11 | 26 => v = vi x18 | 27 => v = pt b36 (o37 + Int.toNat x18 * 10) | 28 => v = pt b36 (o37 + Int.toNat x18 * 10 + 7) | 29 => v = sl b306 o307 (e279.arms).length c302 | 30 => v = vi x151 | 31 => v = pt b306 (o307 + Int.toNat x151 * 3) | 32 => v = pt b306 (o307 + Int.toNat x151 * 3 + 2) | 33 => v = v318 | 34 => v = vi x4 | 35 => v = vi (IntKind.i64.wrap (x4 + 1)) | 36 => v = vi r320 | _ => True) Z6h S191.sub rfl rfl rfl rfl rfl ?_ ?_ ?_
      ·intro i v w h w2 h2 hΦ hst
       match i, hΦ with
       | 0, hΦ | 1, hΦ | 2, hΦ | 3, hΦ | 4, hΦ | 5, hΦ | 6, hΦ | 7, hΦ | 8, hΦ | 9, hΦ | 10, hΦ | 11, hΦ | 12, hΦ | 13, hΦ | 14, hΦ | 15, hΦ | 16, hΦ | 17, hΦ | 18, hΦ | 19, hΦ | 20, hΦ | 21, hΦ | 22, hΦ | 23, hΦ | 24, hΦ | 25, hΦ | 26, hΦ | 27, hΦ | 28, hΦ | 29, hΦ | 30, hΦ | 31, hΦ | 32, hΦ | 33, hΦ | 34, hΦ | 35, hΦ | 36, hΦ => exact hΦ
       | i + 37, _ => exact trivial
      ·refine ⟨?_, ?_, ?_, ?_, ?_, ?_, ?_, ?_, ?_, ?_, ?_, ?_, ?_, ?_, ?_, ?_, ?_, ?_, ?_, ?_, ?_, ?_, ?_, ?_, ?_, ?_, ?_, ?_, ?_, ?_, ?_, ?_, ?_, ?_, ?_, ?_, ?_, trivial⟩
       ·intro a w322 h323 s324 hat hF
        exact Za hat rfl (Z0t rfl) s324.sub (by exact rfl)
       ·intro a w322 h323 s324 hat hF
        exact Za (Z7 hat (hF 0 71 rfl rfl)) rfl (Z3e rfl rfl) s324.sub (by exact rfl)
       ·intro a w322 h323 s324 hat hF
        exact Za hat rfl (Z0t rfl) s324.sub (by exact rfl)
       ·intro a w322 h323 s324 hat hF
        exact Za hat rfl (Z0t rfl) s324.sub (by exact rfl)
       ·intro a w322 h323 s324 hat hF
        exact Za (Z7 (Z7 hat (hF 2 73 rfl rfl)) (hF 3 74 rfl rfl)) rfl (Z1p rfl rfl Z24 Z0u h197 h198) s324.sub (by exact rfl)
       ·intro a w322 h323 s324 hat hF
        exact Za (Z7 hat (hF 4 75 rfl rfl)) rfl (Z1 rfl Z3g) s324.sub (by exact rfl)
       ·intro a w322 h323 s324 hat hF
        exact Za (Z7 hat (hF 5 76 rfl rfl)) rfl (Zb rfl Zbt (s324.sub.at_ _ _ _ ((fun i v hv => (s324.le).1 _ _ _ (hc201 i v hv)) 7 _ rfl))) s324.sub (by exact rfl)
       ·intro a w322 h323 s324 hat hF
        exact Za hat rfl (Z0t rfl) s324.sub (by exact rfl)
       ·intro a w322 h323 s324 hat hF
        exact Za (Z7 (Z7 hat (hF 6 77 rfl rfl)) (hF 7 78 rfl rfl)) rfl (Z1p rfl rfl Z4u Z6c h222 h223) s324.sub (by exact rfl)
       ·intro a w322 h323 s324 hat hF
        exact Za (Z7 hat (hF 8 79 rfl rfl)) rfl (Z1 rfl Z40) s324.sub (by exact rfl)
       ·intro a w322 h323 s324 hat hF
        exact Za (Z7 hat (hF 9 80 rfl rfl)) rfl (Zb rfl Zcn (s324.sub.at_ _ _ _ ((fun i v hv => (s324.le).1 _ _ _ (hc226 i v hv)) 1 _ rfl))) s324.sub (by exact rfl)
       ·intro a w322 h323 s324 hat hF
        exact Za (Z7 hat (hF 10 81 rfl rfl)) rfl (Z1i rfl Z5o) s324.sub (by exact rfl)
       ·intro a w322 h323 s324 hat hF
        exact Za (Z7 (Z7 hat (hF 1 72 rfl rfl)) (hF 11 82 rfl rfl)) rfl (Z3e rfl rfl) s324.sub (by exact rfl)
       ·intro a w322 h323 s324 hat hF
        exact Za hat rfl (Z0t rfl) s324.sub (by exact rfl)
       ·intro a w322 h323 s324 hat hF
        exact Za hat rfl (Z0t rfl) s324.sub (by exact rfl)
       ·intro a w322 h323 s324 hat hF
        exact Za (Z7 (Z7 hat (hF 13 84 rfl rfl)) (hF 14 85 rfl rfl)) rfl (Z1p rfl rfl Z24 Z0u h241 h242) s324.sub (by exact rfl)
       ·intro a w322 h323 s324 hat hF
        exact Za (Z7 hat (hF 15 86 rfl rfl)) rfl (Z1 rfl Z3g) s324.sub (by exact rfl)
       ·intro a w322 h323 s324 hat hF
        exact Za (Z7 hat (hF 16 87 rfl rfl)) rfl (Zb rfl Zbt (s324.sub.at_ _ _ _ ((fun i v hv => (s324.le).1 _ _ _ (hc245 i v hv)) 7 _ rfl))) s324.sub (by exact rfl)
       ·intro a w322 h323 s324 hat hF
        exact Za hat rfl (Z0t rfl) s324.sub (by exact rfl)
       ·intro a w322 h323 s324 hat hF
        exact Za (Z7 (Z7 hat (hF 17 88 rfl rfl)) (hF 18 89 rfl rfl)) rfl (Z1p rfl rfl Z4u Z6c h266 h267) s324.sub (by exact rfl)
       ·intro a w322 h323 s324 hat hF
        exact Za (Z7 hat (hF 19 90 rfl rfl)) rfl (Z1 rfl Z6d) s324.sub (by exact rfl)
       ·intro a w322 h323 s324 hat hF
        exact Za (Z7 hat (hF 20 91 rfl rfl)) rfl (Zb rfl Z31 (s324.sub.at_ _ _ _ ((fun i v hv => (s324.le).1 _ _ _ (hc270 i v hv)) 0 _ rfl))) s324.sub (by exact rfl)
       ·intro a w322 h323 s324 hat hF
        exact Za hat rfl (Z0t rfl) s324.sub (by exact rfl)
       ·intro a w322 h323 s324 hat hF
        refine Zfl (Z7 (Z7 hat (hF 21 92 rfl rfl)) (hF 22 93 rfl rfl)) rfl (Zd (vs := [v271, vi x4]) rfl t_ent_26) (Zas _ hr278 s324.sub (rs272.mono (s324.le))) ?_
        rintro _ w325 ⟨h326, s327, rfl⟩
        exact ⟨_, h326, rfl, s327, (by exact rfl)⟩
       ·intro a w322 h323 s324 hat hF
        exact Za (Z7 (Z7 hat (hF 12 83 rfl rfl)) (hF 23 94 rfl rfl)) rfl (Z3e rfl rfl) s324.sub (by exact rfl)
       ·intro a w322 h323 s324 hat hF
        exact Za hat rfl (Z0t rfl) s324.sub (by exact rfl)
       ·intro a w322 h323 s324 hat hF
        exact Za hat rfl (Z0t rfl) s324.sub (by exact rfl)
       ·intro a w322 h323 s324 hat hF
        exact Za (Z7 (Z7 hat (hF 25 96 rfl rfl)) (hF 26 97 rfl rfl)) rfl (Z1p rfl rfl Z24 Z0u h284 h285) s324.sub (by exact rfl)
       ·intro a w322 h323 s324 hat hF
        exact Za (Z7 hat (hF 27 98 rfl rfl)) rfl (Z1 rfl Z3g) s324.sub (by exact rfl)
       ·intro a w322 h323 s324 hat hF
        exact Za (Z7 hat (hF 28 99 rfl rfl)) rfl (Zb rfl Zbt (s324.sub.at_ _ _ _ ((fun i v hv => (s324.le).1 _ _ _ (hc288 i v hv)) 7 _ rfl))) s324.sub (by exact rfl)
       ·intro a w322 h323 s324 hat hF
        exact Za hat rfl (Z0t rfl) s324.sub (by exact rfl)
       ·intro a w322 h323 s324 hat hF
        exact Za (Z7 (Z7 hat (hF 29 100 rfl rfl)) (hF 30 101 rfl rfl)) rfl (Z1p rfl rfl Z4u Z6c h309 h310) s324.sub (by exact rfl)
       ·intro a w322 h323 s324 hat hF
        exact Za (Z7 hat (hF 31 102 rfl rfl)) rfl (Z1 rfl Ze3) s324.sub (by exact rfl)
       ·intro a w322 h323 s324 hat hF
        exact Za (Z7 hat (hF 32 103 rfl rfl)) rfl (Zb rfl Z5q (s324.sub.at_ _ _ _ ((fun i v hv => (s324.le).1 _ _ _ (hc313 i v hv)) 2 _ rfl))) s324.sub (by exact rfl)
       ·intro a w322 h323 s324 hat hF
        exact Za hat rfl (Z0t rfl) s324.sub (by exact rfl)
       ·intro a w322 h323 s324 hat hF
        exact Za (Z7 hat (hF 34 105 rfl rfl)) rfl (Z3e rfl rfl) s324.sub (by exact rfl)
       intro a w322 h323 s324 hat hF
       refine Zfl (Z7 (Z7 hat (hF 33 104 rfl rfl)) (hF 35 106 rfl rfl)) rfl (Zd (vs := [v318, vi (IntKind.i64.wrap (x4 + 1))]) rfl t_ent_42) ((IH _ (Nat.le_trans (Nat.le_of_succ_le hj154) (Nat.le_trans (Nat.le_of_succ_le hj21) (Nat.le_refl _)))) hr321 s324.sub (rs319.mono (s324.le))) ?_
       rintro _ w328 ⟨h329, s330, rfl⟩
       exact ⟨_, h329, rfl, s330, (by exact rfl)⟩
      intro a w322 h323 s324 hat hF
      obtain hv0 := hF 0 71 (by decide) rfl
      obtain hv1 := hF 1 72 (by decide) rfl
      obtain hv2 := hF 2 73 (by decide) rfl
      obtain hv3 := hF 3 74 (by decide) rfl
      obtain hv4 := hF 4 75 (by decide) rfl
      obtain hv5 := hF 5 76 (by decide) rfl
      obtain hv6 := hF 6 77 (by decide) rfl
      obtain hv7 := hF 7 78 (by decide) rfl
      obtain hv8 := hF 8 79 (by decide) rfl
      obtain hv9 := hF 9 80 (by decide) rfl
      obtain hv10 := hF 10 81 (by decide) rfl
      obtain hv11 := hF 11 82 (by decide) rfl
      obtain hv12 := hF 12 83 (by decide) rfl
      obtain hv13 := hF 13 84 (by decide) rfl
      obtain hv14 := hF 14 85 (by decide) rfl
      obtain hv15 := hF 15 86 (by decide) rfl
      obtain hv16 := hF 16 87 (by decide) rfl
      obtain hv17 := hF 17 88 (by decide) rfl
      obtain hv18 := hF 18 89 (by decide) rfl
      obtain hv19 := hF 19 90 (by decide) rfl
      obtain hv20 := hF 20 91 (by decide) rfl
      obtain hv21 := hF 21 92 (by decide) rfl
      obtain hv22 := hF 22 93 (by decide) rfl
      obtain hv23 := hF 23 94 (by decide) rfl
      obtain hv24 := hF 24 95 (by decide) rfl
      obtain hv25 := hF 25 96 (by decide) rfl
      obtain hv26 := hF 26 97 (by decide) rfl
      obtain hv27 := hF 27 98 (by decide) rfl
      obtain hv28 := hF 28 99 (by decide) rfl
      obtain hv29 := hF 29 100 (by decide) rfl
      obtain hv30 := hF 30 101 (by decide) rfl
      obtain hv31 := hF 31 102 (by decide) rfl
      obtain hv32 := hF 32 103 (by decide) rfl
      obtain hv33 := hF 33 104 (by decide) rfl
      obtain hv34 := hF 34 105 (by decide) rfl
      obtain hv35 := hF 35 106 (by decide) rfl
      obtain hv36 := hF 36 107 (by decide) rfl
      refine Zdh [(107, vi r320), (106, vi (IntKind.i64.wrap (x4 + 1))), (105, vi x4), (104, v318), (103, pt b306 (o307 + Int.toNat x151 * 3 + 2)), (102, pt b306 (o307 + Int.toNat x151 * 3)), (101, vi x151), (100, sl b306 o307 (e279.arms).length c302), (99, pt b36 (o37 + Int.toNat x18 * 10 + 7)), (98, pt b36 (o37 + Int.toNat x18 * 10)), (97, vi x18), (96, sl b36 o37 (xs1).length c11), (95, vi (IntKind.i64.wrap ((IntKind.i64.wrap ((IntKind.i64.wrap (x150 + 1)) + (e217.labels.length : Int))) + r277))), (94, vi r277), (93, vi x4), (92, v271), (91, pt b263 (o264 + Int.toNat x151 * 3)), (90, pt b263 (o264 + Int.toNat x151 * 3)), (89, vi x151), (88, sl b263 o264 (e236.arms).length c259), (87, pt b36 (o37 + Int.toNat x18 * 10 + 7)), (86, pt b36 (o37 + Int.toNat x18 * 10)), (85, vi x18), (84, sl b36 o37 (xs1).length c11), (83, vi (IntKind.i64.wrap ((IntKind.i64.wrap (x150 + 1)) + (e217.labels.length : Int)))), (82, vi (e217.labels.length : Int)), (81, .slice A233 (e217.labels).length c234), (80, pt b219 (o220 + Int.toNat x151 * 3 + 1)), (79, pt b219 (o220 + Int.toNat x151 * 3)), (78, vi x151), (77, sl b219 o220 (e192.arms).length c215), (76, pt b36 (o37 + Int.toNat x18 * 10 + 7)), (75, pt b36 (o37 + Int.toNat x18 * 10)), (74, vi x18), (73, sl b36 o37 (xs1).length c11), (72, vi (IntKind.i64.wrap (x150 + 1))), (71, vi x150), (0, sl b36 o37 (xs1).length c11), (1, vi x4), (5, vi x150), (6, vi x18), (7, vi x151)] (Z7 (Z7 (Z7 (Z7 (Z7 (Z7 (Z7 (Z7 (Z7 (Z7 (Z7 (Z7 (Z7 (Z7 (Z7 (Z7 (Z7 (Z7 (Z7 (Z7 (Z7 (Z7 (Z7 (Z7 (Z7 (Z7 (Z7 (Z7 (Z7 (Z7 (Z7 (Z7 (Z7 (Z7 (Z7 (Z7 (Z7 hat hv0) hv1) hv2) hv3) hv4) hv5) hv6) hv7) hv8) hv9) hv10) hv11) hv12) hv13) hv14) hv15) hv16) hv17) hv18) hv19) hv20) hv21) hv22) hv23) hv24) hv25) hv26) hv27) hv28) hv29) hv30) hv31) hv32) hv33) hv34) hv35) hv36) ?_
      have S331 := S191.trans0 s324
      refine Wv rfl (Z3e rfl rfl) <| Wa rfl rfl <| Z6 <| Zy <| Z4 <| Z0 <| Wm rfl rfl <| Wv rfl (Z3e rfl rfl) <| Wa rfl rfl <| Z6 <| Z2p <| Z99 [0, 1, 5, 6, 7] [(0, sl b36 o37 (xs1).length c11), (1, vi x4), (5, vi (IntKind.i64.wrap ((IntKind.i64.wrap ((IntKind.i64.wrap ((IntKind.i64.wrap (x150 + 1)) + (e217.labels.length : Int))) + r277)) + r320))), (6, vi x18), (7, vi (IntKind.i64.wrap (x151 + 1)))] rfl ?_
      exact IHL153 j152 (Nat.le_refl _) _ _ ⟨h323, IntKind.i64.wrap ((IntKind.i64.wrap ((IntKind.i64.wrap ((IntKind.i64.wrap (x150 + 1)) + (e217.labels.length : Int))) + r277)) + r320), IntKind.i64.wrap (x151 + 1), HF, rfl, S331, (le148).trans ((le190).trans s324.le)⟩
     intro J332
     refine Z09 (fun E w182 => ∃ (h181 : Hp) (x185 : Bool), Z8x j152 (Z12 j152) xs1 x4 x18 x150 x151 x185 = some r ∧ E = [(0, sl b36 o37 (xs1).length c11), (1, vi x4), (5, vi x150), (6, vi x18), (7, vi x151), (68, .bool x185)] ∧ Stp [] w0 h0 w182 h181 ∧ Hle h146 h181) ?_ ?_
     ·rintro E w182 ⟨h181, x185, HF, rfl, S184, le183⟩
      refine Z15 HF rfl (fun HF => ?_) (fun HF => ?_)
      ·refine Zq <| Z01 [0, 1, 5, 6, 7] _ rfl ?_
       exact J332 ⟨h181, HF, rfl, S184, le183⟩
      refine Z66 <| Z05 <| Z05 <| Z1m <| Zy <| Z4 <| Z0 <| Wm rfl rfl <| Wv rfl (Z3e rfl rfl) <| Wa rfl rfl <| Z6 <| Z2p <| Z99 [0, 1, 5, 6] [(0, sl b36 o37 (xs1).length c11), (1, vi x4), (5, vi x150), (6, vi (IntKind.i64.wrap (x18 + 1)))] rfl ?_
      exact IHL20 j152 (Nat.le_trans (Nat.le_of_succ_le hj154) (Nat.le_refl _)) _ _ ⟨h181, x150, IntKind.i64.wrap (x18 + 1), HF, rfl, S184, (le15).trans ((le32).trans ((s132.le).trans ((le148).trans le183)))⟩
     intro J187
     refine Z0 <| Wm rfl rfl <| Wm rfl rfl <| Wm rfl rfl ?_
     obtain ⟨e155, he156, HF⟩ := Z5 HF
     obtain ⟨b157, o158, hA, h160, h161, ra159⟩ := RS.atO (rs12.mono ((le15).trans ((le32).trans ((s132.le).trans le148)))) he156
     obtain ⟨rfl, rfl⟩ := Zh0 hA
     obtain ⟨cs162, r163, hc164⟩ := ra159
     refine Wv rfl (Z1p rfl rfl Z24 Z0u h160 h161) <| Wv rfl (Z1 rfl Z3g) ?_
     obtain ⟨v165, v167, v169, v171, v173, v175, rfl, rs166, rs168, rs170, rs172, rs174, rs176⟩ := rp_St.1 r163
     refine Wv rfl (Zb rfl Zbt (S149.sub.at_ _ _ _ (hc164 7 _ rfl))) ?_
     obtain ⟨A177, c178, rfl, rs179⟩ := RS.form rs174
     refine Wv rfl (Z1i rfl Z4u) <| Wv rfl (Zdk rfl rfl) <| Wm rfl rfl <| Z27 65 HF rfl (fun HF => ?_) (fun HF => ?_)
     ·refine Wm rfl rfl <| Wv rfl (Zh1 rfl rfl) <| Wv rfl (Zj rfl rfl) <| Z6 <| Z01 [0, 1, 5, 6, 7, 68] _ rfl ?_
      exact J187 ⟨h146, decide ((x150 : Int) ≤ 2000), HF, rfl, S149, Hle.refl _⟩
     refine Wp rfl <| Wp rfl <| Wv rfl (Zi rfl rfl) <| Z6 <| Z01 [0, 1, 5, 6, 7, 68] _ rfl ?_
     exact J187 ⟨h146, false, HF, rfl, S149, Hle.refl _⟩
    exact ⟨h131, IntKind.i64.wrap ((IntKind.i64.wrap ((IntKind.i64.wrap ((IntKind.i64.wrap (x17 + r56)) + r80)) + r104)) + r128), 0, HF, rfl, S145, Hle.refl _⟩
   intro J333
   refine Z09 (fun E w24 => ∃ (h23 : Hp) (x27 : Bool), Z8i j19 (Z12 j19) xs1 x4 x17 x18 x27 = some r ∧ E = [(0, .slice A10 (xs1).length c11), (1, vi x4), (5, vi x17), (6, vi x18), (19, .bool x27)] ∧ Stp [] w0 h0 w24 h23 ∧ Hle h13 h23) ?_ ?_
   ·rintro E w24 ⟨h23, x27, HF, rfl, S26, le25⟩
    refine Z15 HF rfl (fun HF => ?_) (fun HF => ?_)
    ·refine Zq <| Z01 [0, 1, 5, 6] _ rfl ?_
     exact J333 ⟨h23, HF, rfl, S26, le25⟩
    refine Z66 <| Z05 <| Z05 <| Z1m <| Z4 <| Zc <| Z0 <| Wm rfl rfl <| Wa rfl rfl <| Z6 <| Z4 <| Z0b <| Z07 rfl rfl ?_
    obtain rfl := Option.some.inj HF
    exact ⟨_, rfl, h23, S26, rfl⟩
   intro J29
   refine Z0 <| Wm rfl rfl <| Wm rfl rfl <| Wv rfl (Z1i rfl Z24) <| Wv rfl (Zdk rfl rfl) <| Wm rfl rfl <| Z27 16 HF rfl (fun HF => ?_) (fun HF => ?_)
   ·refine Wm rfl rfl <| Wv rfl (Zh1 rfl rfl) <| Wv rfl (Zj rfl rfl) <| Z6 <| Z01 [0, 1, 5, 6, 19] _ rfl ?_
    exact J29 ⟨h13, decide ((x17 : Int) ≤ 2000), HF, rfl, S16, Hle.refl _⟩
   refine Wp rfl <| Wp rfl <| Wv rfl (Zi rfl rfl) <| Z6 <| Z01 [0, 1, 5, 6, 19] _ rfl ?_
   exact J29 ⟨h13, false, HF, rfl, S16, Hle.refl _⟩
  exact ⟨h6, (xs1.length : Int), 0, HF, rfl, S9, Hle.refl _⟩
 intro J334
 refine Zc <| Z0 <| Wm rfl rfl <| Wv rfl (Zby rfl rfl) <| Z6 <| Z4 <| Z15 HF rfl (fun HF => ?_) (fun HF => ?_)
 ·refine Zc <| Z0 <| Wa rfl rfl <| Z6 <| Z4 <| Z0b <| Zv <| Z07 rfl rfl ?_
  obtain rfl := Option.some.inj HF
  exact ⟨_, rfl, h0, S0, rfl⟩
 refine Zq <| Z01 [0, 1] _ rfl ?_
 exact J334 ⟨h0, HF, rfl, S0, Hle.refl _⟩
theorem all_law02_weigh : ∀ k j, j ≤ k → Zel (Z12 j).law02_weigh := by
  intro k
  induction k with
  | zero =>
    intro j hj
    obtain rfl : j = 0 := by omega
    exact (fun _ _ _ => by intro h; cases h)
  | succ k ih =>
    intro j hj
    by_cases h : j ≤ k
    · exact ih j h
    · obtain rfl : j = k + 1 := by omega
      exact s_law02_weigh k ih
theorem ok_law02_weigh (k : Nat) : Zel (Z57 k) := (all_law02_weigh k k (Nat.le_refl _))
def C_law02_small (φ : (List St) → Option Bool) : Prop := ∀ ⦃xs1 : List St⦄ ⦃r : Bool⦄, φ xs1 = some r → ∀ ⦃w0 : World⦄ ⦃h0 : Hp⦄ ⦃v2 : Value⦄, Sub h0 w0 → RS h0 v2 xs1 →
  Calls Tryz.prog 19 #[v2] w0 fun e w1 => ∃ v, e = .returned v ∧ ∃ h1, Stp [] w0 h0 w1 h1 ∧ v = .bool r
theorem s_law02_small (k : Nat) : C_law02_small (Zet k) := by
 intro xs1 r HF w0 h0 v2 hs0 rs3
 have S0 : Stp [] w0 h0 w0 h0 := Stp.refl hs0 _
 refine Z4o (n := 6) Tryz.func19 rfl Tryz.ntmps19 rfl [(0, v2)] rfl <| Zc <| Z0 <| Wa rfl rfl <| Z6 <| Z4 <| Zc <| Z0 <| Wm rfl rfl ?_
 obtain ⟨r4, hr5, HF⟩ := Z5 HF
 refine Wc rfl (Zd (vs := [v2, vi 0]) rfl t_ent_42) (ok_law02_weigh _ hr5 S0.sub rs3) ?_
 rintro _ w7 ⟨h8, s9, rfl⟩
 have S10 := S0.trans0 s9
 refine Wv rfl (Zh1 rfl rfl) <| Wa rfl rfl <| Z6 <| Z4 <| Z0b <| Z07 rfl rfl ?_
 obtain rfl := Option.some.inj HF
 exact ⟨_, rfl, h8, S10, rfl⟩
theorem ok_law02_small (k : Nat) : C_law02_small (Zet k) := s_law02_small k
def C_ref01_has (φ : (List ByteArray) → ByteArray → Option Bool) : Prop := ∀ ⦃xs1 : List ByteArray⦄ ⦃x4 : ByteArray⦄ ⦃r : Bool⦄, φ xs1 x4 = some r → ∀ ⦃w0 : World⦄ ⦃h0 : Hp⦄ ⦃v2 : Value⦄, Sub h0 w0 → RS h0 v2 xs1 →
  Calls Tryz.prog 177 #[v2, .string x4] w0 fun e w1 => ∃ v, e = .returned v ∧ ∃ h1, Stp [] w0 h0 w1 h1 ∧ v = .bool r
theorem s_ref01_has (k : Nat) (IH : ∀ j, j ≤ k → C_ref01_has (Z4f j).ref01_has) : C_ref01_has (m_ref01_has k (Z4f k)) := by
 intro xs1 x4 r HF w0 h0 v2 hs0 rs3
 have S0 : Stp [] w0 h0 w0 h0 := Stp.refl hs0 _
 refine Z4o (n := 18) Tryz.func177 rfl Tryz.ntmps177 rfl [(0, v2), (1, .string x4)] rfl <| Zc <| Z0 <| Wa rfl rfl <| Z6 <| Z4 <| Zc <| Zc <| Z0 <| Wa rfl rfl <| Z6 <| Z4 <| Z0r <| Z5v <| Z99 [0, 1, 5] [(0, v2), (1, .string x4), (5, vi 0)] rfl <| Z5u (K := k) (fun j E w6 => ∃ (h5 : Hp) (x9 : Int), (Z4f j).ref01_has_l1 xs1 x4 x9 = some r ∧ E = [(0, v2), (1, .string x4), (5, vi x9)] ∧ Stp [] w0 h0 w6 h5 ∧ Hle h0 h5) ?_ ?_ (j := k) (Nat.le_refl _) ?_
 ·rintro E w6 ⟨_, _, HF, _⟩; cases HF
 ·rintro j10 hj12 IHL11 E w6 ⟨h5, x9, HF, rfl, S8, le7⟩
  refine Z09 (fun E w18 => ∃ (h17 : Hp), ref01_has_j2 j10 (Z4f j10) xs1 x4 x9 = some r ∧ E = [(0, v2), (1, .string x4), (5, vi x9)] ∧ Stp [] w0 h0 w18 h17 ∧ Hle h5 h17) ?_ ?_
  ·rintro E w18 ⟨h17, HF, rfl, S20, le19⟩
   refine Z09 (fun E w36 => ∃ (h35 : Hp), ref01_has_j3 j10 (Z4f j10) xs1 x4 x9 = some r ∧ E = [(0, v2), (1, .string x4), (5, vi x9)] ∧ Stp [] w0 h0 w36 h35 ∧ Hle h17 h35) ?_ ?_
   ·rintro E w36 ⟨h35, HF, rfl, S38, le37⟩
    refine Z0 <| Wm rfl rfl <| Wv rfl (Z3e rfl rfl) <| Wa rfl rfl <| Z6 <| Z2p <| Z99 [0, 1, 5] [(0, v2), (1, .string x4), (5, vi (IntKind.i64.wrap (x9 + 1)))] rfl ?_
    exact IHL11 j10 (Nat.le_refl _) _ _ ⟨h35, IntKind.i64.wrap (x9 + 1), HF, rfl, S38, (le7).trans ((le19).trans le37)⟩
   intro J39
   refine Z0r <| Zc <| Z0 <| Wm rfl rfl <| Wm rfl rfl ?_
   obtain ⟨A21, c22, rfl, rs23⟩ := RS.form (rs3.mono ((le7).trans le19))
   obtain ⟨e24, he25, HF⟩ := Z5 HF
   obtain ⟨b26, o27, rfl, h29, h30, ra28⟩ := RS.atO rs23 he25
   obtain ⟨cs31, r32, hc33⟩ := ra28
   obtain rfl := (show cs31 = _ from r32)
   refine Wv rfl (Z1p rfl rfl Z4v t_size_9 h29 h30) <| Wv rfl (Zb rfl Z32 (S20.sub.at_ _ _ _ (hc33 0 _ rfl))) <| Wm rfl rfl <| Wv rfl (Z0d rfl rfl) <| Z6 <| Z4 <| Z15 HF rfl (fun HF => ?_) (fun HF => ?_)
   ·refine Zc <| Z0 <| Wa rfl rfl <| Z6 <| Z4 <| Z0b <| Z0k <| Zv <| Zv <| Z0k <| Zv <| Z07 rfl rfl ?_
    obtain rfl := Option.some.inj HF
    exact ⟨_, rfl, h17, S20, rfl⟩
   refine Zq <| Zy <| Z01 [0, 1, 5] _ rfl ?_
   exact J39 ⟨h17, HF, rfl, S20, Hle.refl _⟩
  intro J40
  refine Zc <| Z0 <| Wm rfl rfl <| Wm rfl rfl ?_
  obtain ⟨A13, c14, rfl, rs15⟩ := RS.form (rs3.mono (le7))
  refine Wv rfl (Z1i rfl Z4v) <| Wv rfl (Zdk rfl rfl) <| Z6 <| Z4 <| Z15 HF rfl (fun HF => ?_) (fun HF => ?_)
  ·refine Zq <| Z01 [0, 1, 5] _ rfl ?_
   exact J40 ⟨h5, HF, rfl, S8, Hle.refl _⟩
  refine Z66 <| Z05 <| Z05 <| Z1m <| Z4 <| Zc <| Z0 <| Wa rfl rfl <| Z6 <| Z4 <| Z0b <| Z07 rfl rfl ?_
  obtain rfl := Option.some.inj HF
  exact ⟨_, rfl, h5, S8, rfl⟩
 exact ⟨h0, 0, HF, rfl, S0, Hle.refl _⟩
theorem all_ref01_has : ∀ k j, j ≤ k → C_ref01_has (Z4f j).ref01_has := by
  intro k
  induction k with
  | zero =>
    intro j hj
    obtain rfl : j = 0 := by omega
    exact (fun _ _ _ => by intro h; cases h)
  | succ k ih =>
    intro j hj
    by_cases h : j ≤ k
    · exact ih j h
    · obtain rfl : j = k + 1 := by omega
      exact s_ref01_has k ih
theorem ok_ref01_has (k : Nat) : C_ref01_has (F_ref01_has k) := (all_ref01_has k k (Nat.le_refl _))
def C_ref01_Words (φ : Option (List ByteArray)) : Prop := ∀ ⦃r : List ByteArray⦄, φ  = some r → ∀ ⦃w0 : World⦄ ⦃h0 : Hp⦄, Sub h0 w0 →
  Calls Tryz.prog 178 #[] w0 fun e w1 => ∃ v, e = .returned v ∧ ∃ h1, Stp [] w0 h0 w1 h1 ∧ RS h1 v r
theorem s_ref01_Words (k : Nat) : C_ref01_Words (Zf4 k) := by
 intro  r HF w0 h0  hs0 
 have S0 : Stp [] w0 h0 w0 h0 := Stp.refl hs0 _
 refine Z4o (n := 2) Tryz.func178 rfl Tryz.ntmps178 rfl [] rfl <| Zc <| Z0 <| Wa rfl rfl <| Z6 <| Z4 <| Zc <| Z0 <| Z10 (us := ((.string b'98) :: (.string b'100) :: (.string b'99) :: (.string b'101) :: (.string b'102) :: (.string b'103) :: (.string b'104) :: (.string b'105) :: (.string b'108) :: (.string b'107) :: (.string b'106) :: (.string b'109) :: (.string b'0) :: (.string b'1) :: (.string b'2) :: (.string b'3) :: (.string b'4) :: (.string b'10) :: (.string b'9) :: (.string b'5) :: (.string b'6) :: (.string b'7) :: (.string b'8) :: (.string b'11) :: (.string b'12) :: (.string b'13) :: (.string b'14) :: (.string b'18) :: (.string b'19) :: (.string b'20) :: (.string b'15) :: (.string b'16) :: (.string b'17) :: (.string b'21) :: (.string b'22) :: (.string b'23) :: (.string b'24) :: (.string b'25) :: (.string b'26) :: (.string b'27) :: (.string b'30) :: (.string b'29) :: (.string b'28) :: (.string b'31) :: (.string b'33) :: (.string b'32) :: (.string b'35) :: (.string b'34) :: (.string b'36) :: (.string b'37) :: (.string b'38) :: (.string b'41) :: (.string b'39) :: (.string b'40) :: (.string b'42) :: (.string b'43) :: (.string b'44) :: (.string b'46) :: (.string b'45) :: (.string b'47) :: (.string b'48) :: (.string b'49) :: (.string b'50) :: (.string b'51) :: (.string b'52) :: (.string b'57) :: (.string b'54) :: (.string b'56) :: (.string b'55) :: (.string b'53) :: (.string b'58) :: (.string b'60) :: (.string b'59) :: (.string b'61) :: (.string b'62) :: (.string b'65) :: (.string b'63) :: (.string b'64) :: (.string b'66) :: (.string b'73) :: (.string b'67) :: (.string b'68) :: (.string b'69) :: (.string b'71) :: (.string b'70) :: (.string b'74) :: (.string b'75) :: (.string b'76) :: (.string b'78) :: (.string b'77) :: [])) (cs := ((.string b'98) :: (.string b'100) :: (.string b'99) :: (.string b'101) :: (.string b'102) :: (.string b'103) :: (.string b'104) :: (.string b'105) :: (.string b'108) :: (.string b'107) :: (.string b'106) :: (.string b'109) :: (.string b'0) :: (.string b'1) :: (.string b'2) :: (.string b'3) :: (.string b'4) :: (.string b'10) :: (.string b'9) :: (.string b'5) :: (.string b'6) :: (.string b'7) :: (.string b'8) :: (.string b'11) :: (.string b'12) :: (.string b'13) :: (.string b'14) :: (.string b'18) :: (.string b'19) :: (.string b'20) :: (.string b'15) :: (.string b'16) :: (.string b'17) :: (.string b'21) :: (.string b'22) :: (.string b'23) :: (.string b'24) :: (.string b'25) :: (.string b'26) :: (.string b'27) :: (.string b'30) :: (.string b'29) :: (.string b'28) :: (.string b'31) :: (.string b'33) :: (.string b'32) :: (.string b'35) :: (.string b'34) :: (.string b'36) :: (.string b'37) :: (.string b'38) :: (.string b'41) :: (.string b'39) :: (.string b'40) :: (.string b'42) :: (.string b'43) :: (.string b'44) :: (.string b'46) :: (.string b'45) :: (.string b'47) :: (.string b'48) :: (.string b'49) :: (.string b'50) :: (.string b'51) :: (.string b'52) :: (.string b'57) :: (.string b'54) :: (.string b'56) :: (.string b'55) :: (.string b'53) :: (.string b'58) :: (.string b'60) :: (.string b'59) :: (.string b'61) :: (.string b'62) :: (.string b'65) :: (.string b'63) :: (.string b'64) :: (.string b'66) :: (.string b'73) :: (.string b'67) :: (.string b'68) :: (.string b'69) :: (.string b'71) :: (.string b'70) :: (.string b'74) :: (.string b'75) :: (.string b'76) :: (.string b'78) :: (.string b'77) :: [])) rfl rfl rfl Z4v t_size_9 t_zero_9 rfl (Z0c rfl (Z0c rfl (Z0c rfl (Z0c rfl (Z0c rfl (Z0c rfl (Z0c rfl (Z0c rfl (Z0c rfl (Z0c rfl (Z0c rfl (Z0c rfl (Z0c rfl (Z0c rfl (Z0c rfl (Z0c rfl (Z0c rfl (Z0c rfl (Z0c rfl (Z0c rfl (Z0c rfl (Z0c rfl (Z0c rfl (Z0c rfl (Z0c rfl (Z0c rfl (Z0c rfl (Z0c rfl (Z0c rfl (Z0c rfl (Z0c rfl (Z0c rfl (Z0c rfl (Z0c rfl (Z0c rfl (Z0c rfl (Z0c rfl (Z0c rfl (Z0c rfl (Z0c rfl (Z0c rfl (Z0c rfl (Z0c rfl (Z0c rfl (Z0c rfl (Z0c rfl (Z0c rfl (Z0c rfl (Z0c rfl (Z0c rfl (Z0c rfl (Z0c rfl (Z0c rfl (Z0c rfl (Z0c rfl (Z0c rfl (Z0c rfl (Z0c rfl (Z0c rfl (Z0c rfl (Z0c rfl (Z0c rfl (Z0c rfl (Z0c rfl (Z0c rfl (Z0c rfl (Z0c rfl (Z0c rfl (Z0c rfl (Z0c rfl (Z0c rfl (Z0c rfl (Z0c rfl (Z0c rfl (Z0c rfl (Z0c rfl (Z0c rfl (Z0c rfl (Z0c rfl (Z0c rfl (Z0c rfl (Z0c rfl (Z0c rfl (Z0c rfl (Z0c rfl (Z0c rfl (Z0c rfl (Z0c rfl (Z0c rfl (Z0c rfl Zci)))))))))))))))))))))))))))))))))))))))))))))))))))))))))))))))))))))))))))))))))))))))))) rfl rfl rfl S0.sub (fun w1 h2 b3 hb4 s5 hk6 hc7 => ?_)
 have S8 := S0.trans0 s5
 have rs9 : RS h2 (sl b3 0 90 90) ((b'98 :: b'100 :: b'99 :: b'101 :: b'102 :: b'103 :: b'104 :: b'105 :: b'108 :: b'107 :: b'106 :: b'109 :: b'0 :: b'1 :: b'2 :: b'3 :: b'4 :: b'10 :: b'9 :: b'5 :: b'6 :: b'7 :: b'8 :: b'11 :: b'12 :: b'13 :: b'14 :: b'18 :: b'19 :: b'20 :: b'15 :: b'16 :: b'17 :: b'21 :: b'22 :: b'23 :: b'24 :: b'25 :: b'26 :: b'27 :: b'30 :: b'29 :: b'28 :: b'31 :: b'33 :: b'32 :: b'35 :: b'34 :: b'36 :: b'37 :: b'38 :: b'41 :: b'39 :: b'40 :: b'42 :: b'43 :: b'44 :: b'46 :: b'45 :: b'47 :: b'48 :: b'49 :: b'50 :: b'51 :: b'52 :: b'57 :: b'54 :: b'56 :: b'55 :: b'53 :: b'58 :: b'60 :: b'59 :: b'61 :: b'62 :: b'65 :: b'63 :: b'64 :: b'66 :: b'73 :: b'67 :: b'68 :: b'69 :: b'71 :: b'70 :: b'74 :: b'75 :: b'76 :: b'78 :: b'77 :: []) : List ByteArray) := RS.litL _ ([.string b'98] :: [.string b'100] :: [.string b'99] :: [.string b'101] :: [.string b'102] :: [.string b'103] :: [.string b'104] :: [.string b'105] :: [.string b'108] :: [.string b'107] :: [.string b'106] :: [.string b'109] :: [.string b'0] :: [.string b'1] :: [.string b'2] :: [.string b'3] :: [.string b'4] :: [.string b'10] :: [.string b'9] :: [.string b'5] :: [.string b'6] :: [.string b'7] :: [.string b'8] :: [.string b'11] :: [.string b'12] :: [.string b'13] :: [.string b'14] :: [.string b'18] :: [.string b'19] :: [.string b'20] :: [.string b'15] :: [.string b'16] :: [.string b'17] :: [.string b'21] :: [.string b'22] :: [.string b'23] :: [.string b'24] :: [.string b'25] :: [.string b'26] :: [.string b'27] :: [.string b'30] :: [.string b'29] :: [.string b'28] :: [.string b'31] :: [.string b'33] :: [.string b'32] :: [.string b'35] :: [.string b'34] :: [.string b'36] :: [.string b'37] :: [.string b'38] :: [.string b'41] :: [.string b'39] :: [.string b'40] :: [.string b'42] :: [.string b'43] :: [.string b'44] :: [.string b'46] :: [.string b'45] :: [.string b'47] :: [.string b'48] :: [.string b'49] :: [.string b'50] :: [.string b'51] :: [.string b'52] :: [.string b'57] :: [.string b'54] :: [.string b'56] :: [.string b'55] :: [.string b'53] :: [.string b'58] :: [.string b'60] :: [.string b'59] :: [.string b'61] :: [.string b'62] :: [.string b'65] :: [.string b'63] :: [.string b'64] :: [.string b'66] :: [.string b'73] :: [.string b'67] :: [.string b'68] :: [.string b'69] :: [.string b'71] :: [.string b'70] :: [.string b'74] :: [.string b'75] :: [.string b'76] :: [.string b'78] :: [.string b'77] :: []) rfl rfl hc7 ⟨rfl, rfl, rfl, rfl, rfl, rfl, rfl, rfl, rfl, rfl, rfl, rfl, rfl, rfl, rfl, rfl, rfl, rfl, rfl, rfl, rfl, rfl, rfl, rfl, rfl, rfl, rfl, rfl, rfl, rfl, rfl, rfl, rfl, rfl, rfl, rfl, rfl, rfl, rfl, rfl, rfl, rfl, rfl, rfl, rfl, rfl, rfl, rfl, rfl, rfl, rfl, rfl, rfl, rfl, rfl, rfl, rfl, rfl, rfl, rfl, rfl, rfl, rfl, rfl, rfl, rfl, rfl, rfl, rfl, rfl, rfl, rfl, rfl, rfl, rfl, rfl, rfl, rfl, rfl, rfl, rfl, rfl, rfl, rfl, rfl, rfl, rfl, rfl, rfl, rfl, trivial⟩
 have ow10 := Own.lit (base := w0.heap.size) (sz := 1) (m := 90) hk6 hc7 (by rw [hb4]; exact S0.size) rfl (by decide)
 refine Wa rfl rfl <| Z6 <| Z4 <| Z0b <| Z07 rfl rfl ?_
 obtain rfl := Option.some.inj HF
 exact ⟨_, rfl, h2, S8, rs9⟩
theorem ok_ref01_Words (k : Nat) : C_ref01_Words (Zf4 k) := s_ref01_Words k
def C_ref01_IsWord (φ : ByteArray → Option Bool) : Prop := ∀ ⦃x1 : ByteArray⦄ ⦃r : Bool⦄, φ x1 = some r → ∀ ⦃w0 : World⦄ ⦃h0 : Hp⦄, Sub h0 w0 →
  Calls Tryz.prog 143 #[.string x1] w0 fun e w1 => ∃ v, e = .returned v ∧ ∃ h1, Stp [] w0 h0 w1 h1 ∧ v = .bool r
theorem s_ref01_IsWord (k : Nat) : C_ref01_IsWord (Zb0 k) := by
 intro x1 r HF w0 h0  hs0 
 have S0 : Stp [] w0 h0 w0 h0 := Stp.refl hs0 _
 refine Z4o (n := 6) Tryz.func143 rfl Tryz.ntmps143 rfl [(0, .string x1)] rfl <| Zc <| Z0 <| Wa rfl rfl <| Z6 <| Z4 <| Zc <| Z0 ?_
 obtain ⟨r2, hr3, HF⟩ := Z5 HF
 refine Wc rfl (Zd (vs := []) rfl t_ent_178) (ok_ref01_Words _ hr3 S0.sub) ?_
 rintro v8 w5 ⟨h6, s7, rs9⟩
 have S10 := S0.trans0 s7
 refine Wm rfl rfl ?_
 obtain ⟨r11, hr12, HF⟩ := Z5 HF
 refine Wc rfl (Zd (vs := [v8, .string x1]) rfl t_ent_177) (ok_ref01_has _ hr12 S10.sub rs9) ?_
 rintro _ w14 ⟨h15, s16, rfl⟩
 have S17 := S10.trans0 s16
 refine Wa rfl rfl <| Z6 <| Z4 <| Z0b <| Z07 rfl rfl ?_
 obtain rfl := Option.some.inj HF
 exact ⟨_, rfl, h15, S17, rfl⟩
theorem ok_ref01_IsWord (k : Nat) : C_ref01_IsWord (Zb0 k) := s_ref01_IsWord k
def C_ref01_letter (φ : Int → Option Bool) : Prop := ∀ ⦃x1 : Int⦄ ⦃r : Bool⦄, φ x1 = some r → ∀ ⦃w0 : World⦄ ⦃h0 : Hp⦄, Sub h0 w0 →
  Calls Tryz.prog 141 #[.int .u8 x1] w0 fun e w1 => ∃ v, e = .returned v ∧ ∃ h1, Stp [] w0 h0 w1 h1 ∧ v = .bool r
theorem s_ref01_letter (k : Nat) : C_ref01_letter (Zda k) := by
 intro x1 r HF w0 h0  hs0 
 have S0 : Stp [] w0 h0 w0 h0 := Stp.refl hs0 _
 refine Z4o (n := 9) Tryz.func141 rfl Tryz.ntmps141 rfl [(0, .int .u8 x1)] rfl <| Zc <| Z0 <| Wa rfl rfl <| Z6 <| Z4 <| Zc <| Z0 <| Wm rfl rfl <| Wv rfl (ov_geq rfl rfl) <| Wm rfl rfl <| Z27 5 HF rfl (fun HF => ?_) (fun HF => ?_)
 ·refine Wm rfl rfl <| Wv rfl (Zh1 rfl rfl) <| Wv rfl (Zj rfl rfl) <| Wa rfl rfl <| Z6 <| Z4 <| Z0b <| Z07 rfl rfl ?_
  obtain rfl := Option.some.inj HF
  exact ⟨_, rfl, h0, S0, rfl⟩
 refine Wp rfl <| Wp rfl <| Wv rfl (Zi rfl rfl) <| Wa rfl rfl <| Z6 <| Z4 <| Z0b <| Z07 rfl rfl ?_
 obtain rfl := Option.some.inj HF
 exact ⟨_, rfl, h0, S0, rfl⟩
theorem ok_ref01_letter (k : Nat) : C_ref01_letter (Zda k) := s_ref01_letter k
def C_ref01_digit (φ : Int → Option Bool) : Prop := ∀ ⦃x1 : Int⦄ ⦃r : Bool⦄, φ x1 = some r → ∀ ⦃w0 : World⦄ ⦃h0 : Hp⦄, Sub h0 w0 →
  Calls Tryz.prog 142 #[.int .u8 x1] w0 fun e w1 => ∃ v, e = .returned v ∧ ∃ h1, Stp [] w0 h0 w1 h1 ∧ v = .bool r
theorem s_ref01_digit (k : Nat) : C_ref01_digit (Zeg k) := by
 intro x1 r HF w0 h0  hs0 
 have S0 : Stp [] w0 h0 w0 h0 := Stp.refl hs0 _
 refine Z4o (n := 9) Tryz.func142 rfl Tryz.ntmps142 rfl [(0, .int .u8 x1)] rfl <| Zc <| Z0 <| Wa rfl rfl <| Z6 <| Z4 <| Zc <| Z0 <| Wm rfl rfl <| Wv rfl (ov_geq rfl rfl) <| Wm rfl rfl <| Z27 5 HF rfl (fun HF => ?_) (fun HF => ?_)
 ·refine Wm rfl rfl <| Wv rfl (Zh1 rfl rfl) <| Wv rfl (Zj rfl rfl) <| Wa rfl rfl <| Z6 <| Z4 <| Z0b <| Z07 rfl rfl ?_
  obtain rfl := Option.some.inj HF
  exact ⟨_, rfl, h0, S0, rfl⟩
 refine Wp rfl <| Wp rfl <| Wv rfl (Zi rfl rfl) <| Wa rfl rfl <| Z6 <| Z4 <| Z0b <| Z07 rfl rfl ?_
 obtain rfl := Option.some.inj HF
 exact ⟨_, rfl, h0, S0, rfl⟩
theorem ok_ref01_digit (k : Nat) : C_ref01_digit (Zeg k) := s_ref01_digit k
def Zde (φ : ByteArray → Option Bool) : Prop := ∀ ⦃x1 : ByteArray⦄ ⦃r : Bool⦄, φ x1 = some r → ∀ ⦃w0 : World⦄ ⦃h0 : Hp⦄, Sub h0 w0 →
  Calls Tryz.prog 84 #[.string x1] w0 fun e w1 => ∃ v, e = .returned v ∧ ∃ h1, Stp [] w0 h0 w1 h1 ∧ v = .bool r
theorem s_ref01_IsName (k : Nat) (IH : ∀ j, j ≤ k → Zde (Z2l j).ref01_IsName) : Zde (m_ref01_IsName k (Z2l k)) := by
 intro x1 r HF w0 h0  hs0 
 have S0 : Stp [] w0 h0 w0 h0 := Stp.refl hs0 _
 refine Z4o (n := 45) Tryz.func84 rfl Tryz.ntmps84 rfl [(0, .string x1)] rfl <| Zc <| Z0 <| Wa rfl rfl <| Z6 <| Z4 <| Zc <| Zc <| Z0 <| Wa rfl rfl <| Z6 <| Z4 <| Z0r <| Z5v <| Z99 [0, 3] [(0, .string x1), (3, vi 0)] rfl <| Z5u (K := k) (fun j E w3 => ∃ (h2 : Hp) (x6 : Int), (Z2l j).ref01_IsName_l1 x1 x6 = some r ∧ E = [(0, .string x1), (3, vi x6)] ∧ Stp [] w0 h0 w3 h2 ∧ Hle h0 h2) ?_ ?_ (j := k) (Nat.le_refl _) ?_
 ·rintro E w3 ⟨_, _, HF, _⟩; cases HF
 ·rintro j7 hj9 IHL8 E w3 ⟨h2, x6, HF, rfl, S5, le4⟩
  refine Z09 (fun E w21 => ∃ (h20 : Hp), Zf8 j7 (Z2l j7) x1 x6 = some r ∧ E = [(0, .string x1), (3, vi x6)] ∧ Stp [] w0 h0 w21 h20 ∧ Hle h2 h20) ?_ ?_
  ·rintro E w21 ⟨h20, HF, rfl, S23, le22⟩
   refine Z09 (fun E w55 => ∃ (h54 : Hp), Zfd j7 (Z2l j7) x1 x6 = some r ∧ E = [(0, .string x1), (3, vi x6)] ∧ Stp [] w0 h0 w55 h54 ∧ Hle h20 h54) ?_ ?_
   ·rintro E w55 ⟨h54, HF, rfl, S57, le56⟩
    refine Z0 <| Wm rfl rfl <| Wv rfl (Z3e rfl rfl) <| Wa rfl rfl <| Z6 <| Z2p <| Z99 [0, 3] [(0, .string x1), (3, vi (IntKind.i64.wrap (x6 + 1)))] rfl ?_
    exact IHL8 j7 (Nat.le_refl _) _ _ ⟨h54, IntKind.i64.wrap (x6 + 1), HF, rfl, S57, (le4).trans ((le22).trans le56)⟩
   intro J58
   refine Z0r <| Z09 (fun E w48 => ∃ (h47 : Hp) (x51 : Bool), Z7n j7 (Z2l j7) x1 x6 x51 = some r ∧ E = [(0, .string x1), (3, vi x6), (31, .bool x51)] ∧ Stp [] w0 h0 w48 h47 ∧ Hle h20 h47) ?_ ?_
   ·rintro E w48 ⟨h47, x51, HF, rfl, S50, le49⟩
    refine Z15 HF rfl (fun HF => ?_) (fun HF => ?_)
    ·refine Zc <| Z0 <| Wa rfl rfl <| Z6 <| Z4 <| Z0b <| Z0k <| Zv <| Zv <| Z0k <| Zv <| Z07 rfl rfl ?_
     obtain rfl := Option.some.inj HF
     exact ⟨_, rfl, h47, S50, rfl⟩
    refine Zq <| Zy <| Z01 [0, 3] _ rfl ?_
    exact J58 ⟨h47, HF, rfl, S50, le49⟩
   intro J53
   refine Z0 <| Wm rfl rfl <| Wm rfl rfl ?_
   obtain ⟨c24, hc25, HF⟩ := Z5 HF
   refine Wv rfl (Z73 rfl rfl Z00 hc25) ?_
   obtain ⟨r26, hr27, HF⟩ := Z5 HF
   refine Wc rfl (Zd (vs := [.int .u8 c24]) rfl t_ent_141) (ok_ref01_letter _ hr27 S23.sub) ?_
   rintro _ w29 ⟨h30, s31, rfl⟩
   have S32 := S23.trans0 s31
   refine Wv rfl (Z30 rfl) <| Wm rfl rfl <| Z27 15 HF rfl (fun HF => ?_) (fun HF => ?_)
   ·refine Wm rfl rfl <| Wv rfl (Z1g rfl rfl) <| Wm rfl rfl <| Z27 18 HF rfl (fun HF => ?_) (fun HF => ?_)
    ·refine Wp rfl <| Wp rfl <| Wp rfl <| Wp rfl <| Wp rfl <| Wp rfl <| Wp rfl <| Wp rfl <| Wp rfl <| Wp rfl <| Wp rfl <| Wv rfl (Zj rfl rfl) <| Wv rfl (Zj rfl rfl) <| Z6 <| Z01 [0, 3, 31] _ rfl ?_
     exact J53 ⟨h30, true, HF, rfl, S32, s31.le⟩
    refine Wm rfl rfl <| Wm rfl rfl ?_
    obtain ⟨c35, hc36, HF⟩ := Z5 HF
    refine Wv rfl (Z73 rfl rfl Z00 hc36) ?_
    obtain ⟨r37, hr38, HF⟩ := Z5 HF
    refine Wc rfl (Zd (vs := [.int .u8 c35]) rfl t_ent_142) (ok_ref01_digit _ hr38 S32.sub) ?_
    rintro _ w40 ⟨h41, s42, rfl⟩
    have S43 := S32.trans0 s42
    refine Wv rfl (Z30 rfl) <| Wm rfl rfl <| Z27 24 HF rfl (fun HF => ?_) (fun HF => ?_)
    ·refine Wm rfl rfl <| Wm rfl rfl ?_
     obtain ⟨c45, hc46, HF⟩ := Z5 HF
     refine Wv rfl (Z73 rfl rfl Z00 hc46) <| Wv rfl (Zca rfl rfl) <| Wv rfl (Zj rfl rfl) <| Wv rfl (Zi rfl rfl) <| Wv rfl (Zj rfl rfl) <| Z6 <| Z01 [0, 3, 31] _ rfl ?_
     exact J53 ⟨h41, (c45 : Int) != 95, HF, rfl, S43, (s31.le).trans s42.le⟩
    refine Wp rfl <| Wp rfl <| Wp rfl <| Wp rfl <| Wv rfl (Zi rfl rfl) <| Wv rfl (Zi rfl rfl) <| Wv rfl (Zj rfl rfl) <| Z6 <| Z01 [0, 3, 31] _ rfl ?_
    exact J53 ⟨h41, false, HF, rfl, S43, (s31.le).trans s42.le⟩
   refine Wp rfl <| Wp rfl <| Wp rfl <| Wp rfl <| Wp rfl <| Wp rfl <| Wp rfl <| Wp rfl <| Wp rfl <| Wp rfl <| Wp rfl <| Wp rfl <| Wp rfl <| Wp rfl <| Wp rfl <| Wv rfl (Zi rfl rfl) <| Z6 <| Z01 [0, 3, 31] _ rfl ?_
   exact J53 ⟨h30, false, HF, rfl, S32, s31.le⟩
  intro J59
  refine Zc <| Z0 <| Wm rfl rfl <| Wm rfl rfl <| Wv rfl (Z7w rfl Z00) <| Wv rfl (Zdk rfl rfl) <| Z6 <| Z4 <| Z15 HF rfl (fun HF => ?_) (fun HF => ?_)
  ·refine Zq <| Z01 [0, 3] _ rfl ?_
   exact J59 ⟨h2, HF, rfl, S5, Hle.refl _⟩
  refine Z66 <| Z05 <| Z05 <| Z1m <| Z4 <| Zc <| Z0 <| Wm rfl rfl <| Wv rfl (Z7w rfl Z00) <| Wv rfl (ov_geq rfl rfl) <| Wm rfl rfl <| Z27 35 HF rfl (fun HF => ?_) (fun HF => ?_)
  ·refine Wm rfl rfl <| Wv rfl (Z7w rfl Z00) <| Wv rfl (Zh1 rfl rfl) <| Wv rfl (Zj rfl rfl) <| Wm rfl rfl <| Z27 40 HF rfl (fun HF => ?_) (fun HF => ?_)
   ·refine Wm rfl rfl ?_
    obtain ⟨r13, hr14, HF⟩ := Z5 HF
    refine Wc rfl (Zd (vs := [.string x1]) rfl t_ent_143) (ok_ref01_IsWord _ hr14 S5.sub) ?_
    rintro _ w16 ⟨h17, s18, rfl⟩
    have S19 := S5.trans0 s18
    refine Wv rfl (Z30 rfl) <| Wv rfl (Zj rfl rfl) <| Wa rfl rfl <| Z6 <| Z4 <| Z0b <| Z07 rfl rfl ?_
    obtain rfl := Option.some.inj HF
    exact ⟨_, rfl, h17, S19, rfl⟩
   refine Wp rfl <| Wp rfl <| Wp rfl <| Wv rfl (Zi rfl rfl) <| Wa rfl rfl <| Z6 <| Z4 <| Z0b <| Z07 rfl rfl ?_
   obtain rfl := Option.some.inj HF
   exact ⟨_, rfl, h2, S5, rfl⟩
  refine Wp rfl <| Wp rfl <| Wp rfl <| Wv rfl (Zi rfl rfl) <| Wm rfl rfl <| Wp rfl <| Wp rfl <| Wp rfl <| Wv rfl (Zi rfl rfl) <| Wa rfl rfl <| Z6 <| Z4 <| Z0b <| Z07 rfl rfl ?_
  obtain rfl := Option.some.inj HF
  exact ⟨_, rfl, h2, S5, rfl⟩
 exact ⟨h0, 0, HF, rfl, S0, Hle.refl _⟩
theorem all_ref01_IsName : ∀ k j, j ≤ k → Zde (Z2l j).ref01_IsName := by
  intro k
  induction k with
  | zero =>
    intro j hj
    obtain rfl : j = 0 := by omega
    exact (fun _ _ => by intro h; cases h)
  | succ k ih =>
    intro j hj
    by_cases h : j ≤ k
    · exact ih j h
    · obtain rfl : j = k + 1 := by omega
      exact s_ref01_IsName k ih
theorem Zbx (k : Nat) : Zde (Z52 k) := (all_ref01_IsName k k (Nat.le_refl _))
def C_ref02_label (φ : Int → Option Bool) : Prop := ∀ ⦃x1 : Int⦄ ⦃r : Bool⦄, φ x1 = some r → ∀ ⦃w0 : World⦄ ⦃h0 : Hp⦄, Sub h0 w0 →
  Calls Tryz.prog 136 #[.int .i64 x1] w0 fun e w1 => ∃ v, e = .returned v ∧ ∃ h1, Stp [] w0 h0 w1 h1 ∧ v = .bool r
theorem s_ref02_label (k : Nat) : C_ref02_label (Za0 k) := by
 intro x1 r HF w0 h0  hs0 
 have S0 : Stp [] w0 h0 w0 h0 := Stp.refl hs0 _
 refine Z4o (n := 9) Tryz.func136 rfl Tryz.ntmps136 rfl [(0, vi x1)] rfl <| Zc <| Z0 <| Wa rfl rfl <| Z6 <| Z4 <| Zc <| Z0 <| Wm rfl rfl <| Wv rfl (ov_geq rfl rfl) <| Wm rfl rfl <| Z27 5 HF rfl (fun HF => ?_) (fun HF => ?_)
 ·refine Wm rfl rfl <| Wv rfl (Zh1 rfl rfl) <| Wv rfl (Zj rfl rfl) <| Wa rfl rfl <| Z6 <| Z4 <| Z0b <| Z07 rfl rfl ?_
  obtain rfl := Option.some.inj HF
  exact ⟨_, rfl, h0, S0, rfl⟩
 refine Wp rfl <| Wp rfl <| Wv rfl (Zi rfl rfl) <| Wa rfl rfl <| Z6 <| Z4 <| Z0b <| Z07 rfl rfl ?_
 obtain rfl := Option.some.inj HF
 exact ⟨_, rfl, h0, S0, rfl⟩
theorem ok_ref02_label (k : Nat) : C_ref02_label (Za0 k) := s_ref02_label k
def Zfx (φ : Int → Int → Bool → Bool → Option Bool) : Prop := ∀ ⦃x3 : Int⦄ ⦃x4 : Int⦄ ⦃x5 : Bool⦄ ⦃x7 : Bool⦄ ⦃r : Bool⦄, φ x3 x4 x5 x7 = some r → ∀ ⦃w0 : World⦄ ⦃h0 : Hp⦄ ⦃b1 : Nat⦄ ⦃T2 : Nat⦄, Sub h0 w0 → OB w0 h0 b1 T2 [.int .i64 x3, .int .i64 x4, .bool x5] →
  Calls Tryz.prog 83 #[.pointer (some ⟨b1, 0, none⟩), .bool x7] w0 fun e w1 => ∃ v, e = .returned v ∧ ∃ h1, Stp [b1] w0 h0 w1 h1 ∧ v = .tuple #[] ∧ (OB w1 h1 b1 T2 [.int .i64 x3, .int .i64 x4, .bool r])
theorem s_ref02_Size_Right (k : Nat) : Zfx (Zg k) := by
 intro x3 x4 x5 x7 r HF w0 h0 b1 T2 hs0 ob6
 have S0 : Stp [b1] w0 h0 w0 h0 := Stp.refl hs0 _
 have lt8 : b1 < w0.heap.size := OB.lt ob6
 refine Z4o (n := 9) Tryz.func83 rfl Tryz.ntmps83 rfl [(0, pt b1 0), (1, .bool x7)] rfl <| Zc <| Z0 <| Wm rfl rfl <| Wv rfl (Z30 rfl) <| Z6 <| Z4 <| Z15 HF rfl (fun HF => ?_) (fun HF => ?_)
 ·refine Z0 <| Wm rfl rfl <| Wv rfl (Zp rfl) <| Wv rfl (Z1 rfl Z6f) <| Zr (vs := [.bool true]) rfl rfl rfl rfl t_size_4 (Z3 rfl Zx) ob6 S0.sub (by simp) (ds := [vi x3, vi x4, .bool true]) rfl (fun w10 s11 ob12 => ?_)
  have S13 := S0.trans1 s11 (.inl (by simp))
  refine Z6 <| Z6j rfl ?_
  obtain rfl := Option.some.inj HF
  exact ⟨_, rfl, h0, S13, rfl, ob12⟩
 refine Zq <| Z6j rfl ?_
 obtain rfl := Option.some.inj HF
 exact ⟨_, rfl, h0, S0, rfl, ob6⟩
theorem Zf (k : Nat) : Zfx (Zg k) := s_ref02_Size_Right k
def Zh5 (φ : Int → Int → Bool → Int → Option (Int × Int × Bool)) : Prop := ∀ ⦃x3 : Int⦄ ⦃x4 : Int⦄ ⦃x5 : Bool⦄ ⦃x7 : Int⦄ ⦃r : Int × Int × Bool⦄, φ x3 x4 x5 x7 = some r → ∀ ⦃w0 : World⦄ ⦃h0 : Hp⦄ ⦃b1 : Nat⦄ ⦃T2 : Nat⦄, Sub h0 w0 → OB w0 h0 b1 T2 [.int .i64 x3, .int .i64 x4, .bool x5] →
  Calls Tryz.prog 82 #[.pointer (some ⟨b1, 0, none⟩), .int .i64 x7] w0 fun e w1 => ∃ v, e = .returned v ∧ ∃ h1, Stp [b1] w0 h0 w1 h1 ∧ v = .tuple #[] ∧ (OB w1 h1 b1 T2 [.int .i64 r.1, .int .i64 r.2.1, .bool r.2.2])
theorem s_ref02_Size_Node (k : Nat) : Zh5 (Z4q k) := by
 intro x3 x4 x5 x7 r HF w0 h0 b1 T2 hs0 ob6
 have S0 : Stp [b1] w0 h0 w0 h0 := Stp.refl hs0 _
 have lt8 : b1 < w0.heap.size := OB.lt ob6
 refine Z4o (n := 32) Tryz.func82 rfl Tryz.ntmps82 rfl [(0, pt b1 0), (1, vi x7)] rfl <| Zc <| Z0 <| Wm rfl rfl <| Wv rfl (Zp rfl) <| Wv rfl (Z1 rfl Zgc) <| Wv rfl (Zb rfl Z04 (OB.cell ob6 (j := 0) rfl)) <| Wv rfl (Z3e rfl rfl) <| Wv rfl (Zp rfl) <| Wv rfl (Z1 rfl Zgc) <| Zr (vs := [vi (IntKind.i64.wrap (x3 + 1))]) rfl rfl rfl rfl Z1s (Z3 rfl Zx) ob6 S0.sub (by simp) (ds := [vi (IntKind.i64.wrap (x3 + 1)), vi x4, .bool x5]) rfl (fun w9 s10 ob11 => ?_)
 have S12 := S0.trans1 s10 (.inl (by simp))
 refine Z6 <| Z4 <| Zc <| Z0 <| Wm rfl rfl <| Wm rfl rfl <| Wv rfl (Zp rfl) <| Wv rfl (Z1 rfl t_field_43_1) <| Wv rfl (Zb rfl Z04 (OB.cell ob11 (j := 1) rfl)) <| Wm rfl rfl <| Wv rfl (ov_max rfl rfl) <| Wv rfl (Zp rfl) <| Wv rfl (Z1 rfl t_field_43_1) <| Zr (vs := [vi (imax x4 x7)]) rfl rfl rfl rfl Z1s (Z3 rfl Zx) ob11 S12.sub (by simp) (ds := [vi (IntKind.i64.wrap (x3 + 1)), vi (imax x4 x7), .bool x5]) rfl (fun w13 s14 ob15 => ?_)
 have S16 := S12.trans1 s14 (.inl (by simp))
 refine Z6 <| Z4 <| Z09 (fun E w19 => ∃ (h18 : Hp) (x22 : Bool), Z8v k x3 x4 x5 x7 x22 = some r ∧ E = [(0, pt b1 0), (28, .bool x22)] ∧ Stp [b1] w0 h0 w19 h18 ∧ Hle h0 h18 ∧ OB w19 h18 b1 T2 [vi (IntKind.i64.wrap (x3 + 1)), vi (imax x4 x7), .bool x5]) ?_ ?_
 ·rintro E w19 ⟨h18, x22, HF, rfl, S21, le20, ob23⟩
  refine Z15 HF rfl (fun HF => ?_) (fun HF => ?_)
  ·refine Z0 <| Wm rfl rfl <| Wv rfl (Zp rfl) <| Wv rfl (Z1 rfl Z6f) <| Zr (vs := [.bool true]) rfl rfl rfl rfl t_size_4 (Z3 rfl Zx) ob23 S21.sub (by simp) (ds := [vi (IntKind.i64.wrap (x3 + 1)), vi (imax x4 x7), .bool true]) rfl (fun w25 s26 ob27 => ?_)
   have S28 := S21.trans1 s26 (.inl (by simp))
   refine Z6 <| Z6j rfl ?_
   obtain rfl := Option.some.inj HF
   exact ⟨_, rfl, h18, S28, rfl, ob27⟩
  refine Zq <| Z6j rfl ?_
  obtain rfl := Option.some.inj HF
  exact ⟨_, rfl, h18, S21, rfl, ob23⟩
 intro J29
 refine Z0 <| Wm rfl rfl <| Wv rfl (Zp rfl) <| Wv rfl (Z1 rfl Zgc) <| Wv rfl (Zb rfl Z04 (OB.cell ob15 (j := 0) rfl)) <| Wv rfl (Zby rfl rfl) <| Wm rfl rfl <| Z27 25 HF rfl (fun HF => ?_) (fun HF => ?_)
 ·refine Wp rfl <| Wp rfl <| Wv rfl (Zj rfl rfl) <| Z6 <| Z01 [0, 28] _ rfl ?_
  exact J29 ⟨h0, true, HF, rfl, S16, Hle.refl _, ob15⟩
 refine Wm rfl rfl <| Wv rfl (Zby rfl rfl) <| Wv rfl (Zi rfl rfl) <| Z6 <| Z01 [0, 28] _ rfl ?_
 exact J29 ⟨h0, decide ((14 : Int) < x7), HF, rfl, S16, Hle.refl _, ob15⟩
theorem Zbg (k : Nat) : Zh5 (Z4q k) := s_ref02_Size_Node k
def Z9i (φ : Int → Int → Bool → Ex → Int → Option (Int × Int × Bool)) : Prop := ∀ ⦃x3 : Int⦄ ⦃x4 : Int⦄ ⦃x5 : Bool⦄ ⦃x7 : Ex⦄ ⦃x10 : Int⦄ ⦃r : Int × Int × Bool⦄, φ x3 x4 x5 x7 x10 = some r → ∀ ⦃w0 : World⦄ ⦃h0 : Hp⦄ ⦃b1 : Nat⦄ ⦃T2 : Nat⦄ ⦃cs8 : List Value⦄, Sub h0 w0 → Rp.R h0 x7 cs8 → OB w0 h0 b1 T2 [.int .i64 x3, .int .i64 x4, .bool x5] →
  Calls Tryz.prog 49 #[.pointer (some ⟨b1, 0, none⟩), .agg cs8.toArray, .int .i64 x10] w0 fun e w1 => ∃ v, e = .returned v ∧ ∃ h1, Stp [b1] w0 h0 w1 h1 ∧ v = .tuple #[] ∧ (OB w1 h1 b1 T2 [.int .i64 r.1, .int .i64 r.2.1, .bool r.2.2])
def Z70 (φ : Int → Int → Bool → (List Ex) → Int → Option (Int × Int × Bool)) : Prop := ∀ ⦃x3 : Int⦄ ⦃x4 : Int⦄ ⦃x5 : Bool⦄ ⦃xs7 : List Ex⦄ ⦃x10 : Int⦄ ⦃r : Int × Int × Bool⦄, φ x3 x4 x5 xs7 x10 = some r → ∀ ⦃w0 : World⦄ ⦃h0 : Hp⦄ ⦃b1 : Nat⦄ ⦃T2 : Nat⦄ ⦃v8 : Value⦄, Sub h0 w0 → RS h0 v8 xs7 → OB w0 h0 b1 T2 [.int .i64 x3, .int .i64 x4, .bool x5] →
  Calls Tryz.prog 85 #[.pointer (some ⟨b1, 0, none⟩), v8, .int .i64 x10] w0 fun e w1 => ∃ v, e = .returned v ∧ ∃ h1, Stp [b1] w0 h0 w1 h1 ∧ v = .tuple #[] ∧ (OB w1 h1 b1 T2 [.int .i64 r.1, .int .i64 r.2.1, .bool r.2.2])
theorem s_ref02_Size_Expr (k : Nat) (IH : ∀ j, j ≤ k → Z9i (Zw j).ref02_Size_Expr ∧ Z70 (Zw j).ref02_Size_Exprs) : Z9i (Z9n k (Zw k)) := by
 intro x3 x4 x5 x7 x10 r HF w0 h0 b1 T2 cs8 hs0 r9 ob6
 have S0 : Stp [b1] w0 h0 w0 h0 := Stp.refl hs0 _
 have lt11 : b1 < w0.heap.size := OB.lt ob6
 refine Z4o (n := 150) Tryz.func49 rfl Tryz.ntmps49 rfl [(0, pt b1 0), (1, .agg cs8.toArray), (2, vi x10)] rfl <| Zc <| Z0 ?_
 obtain ⟨v12, rfl, rs13⟩ := Zab.1 r9
 refine WL.box (cs := [vi x7.op, vi x7.kind, vi x7.n, .string x7.s, .string x7.f, v12]) rfl rfl rfl rfl S0.sub (fun w14 b15 hb16 s17 ob18 => ?_)
 have ne19 : b1 ≠ b15 := ob6.ne_new hb16
 have g20 : w0.heap.size ≤ b15 := by rw [hb16]; exact S0.size
 have S21 := S0.trans0 s17
 refine Z6 <| Z4 <| Z09 (fun E w25 => ∃ (h24 : Hp), Zbh k (Zw k) x3 x4 x5 x7 x10 = some r ∧ E = [(0, pt b1 0), (2, vi x10), (4, pt b15 0)] ∧ Stp [b1] w0 h0 w25 h24 ∧ Hle h0 h24 ∧ OB w25 h24 b1 T2 [vi x3, vi x4, .bool x5] ∧ OB w25 h24 b15 47 [vi x7.op, vi x7.kind, vi x7.n, .string x7.s, .string x7.f, v12]) ?_ ?_
 ·rintro E w25 ⟨h24, HF, rfl, S27, le26, ob28, ob29⟩
  refine Zc <| Z0 <| Wm rfl rfl <| Wm rfl rfl ?_
  obtain ⟨r30, hr31, HF⟩ := Z5 HF
  refine Wc rfl (Zd (vs := [pt b1 0, vi x10]) rfl t_ent_82) (Zbg _ hr31 S27.sub ob28) ?_
  rintro v32 w33 ⟨h34, s35, rfl, ob36⟩
  have S37 := S27.trans s35 (Zl (.inl (by simp)) Zt)
  refine Z6 <| Z4 <| Zc <| Z0 <| Wa rfl rfl <| Z6 <| Z4 <| Zc <| Z0 <| Wa rfl rfl <| Wa rfl rfl <| Z6 <| Z4 <| Z09 (fun E w128 => ∃ (h127 : Hp) (x131 : Int) (x132 : Bool) (x133 : Bool) (x134 : Bool), Z1d k (Zw k) x7 x10 r30 x131 x132 x133 x134 = some r ∧ E = [(0, pt b1 0), (2, vi x10), (4, pt b15 0), (6, vi x131), (7, .bool x132), (8, .bool x133)] ∧ Stp [b1] w0 h0 w128 h127 ∧ Hle h34 h127 ∧ OB w128 h127 b1 T2 [vi r30.1, vi r30.2.1, .bool x134] ∧ OB w128 h127 b15 47 [vi x7.op, vi x7.kind, vi x7.n, .string x7.s, .string x7.f, v12]) ?_ ?_
  ·rintro E w128 ⟨h127, x131, x132, x133, x134, HF, rfl, S130, le129, ob135, ob136⟩
   refine Z09 (fun E w176 => ∃ (h175 : Hp) (x179 : Bool), Z5c k (Zw k) x7 x10 r30 x132 x133 x179 = some r ∧ E = [(0, pt b1 0), (2, vi x10), (4, pt b15 0), (7, .bool x132), (8, .bool x133)] ∧ Stp [b1] w0 h0 w176 h175 ∧ Hle h127 h175 ∧ OB w176 h175 b1 T2 [vi r30.1, vi r30.2.1, .bool x179] ∧ OB w176 h175 b15 47 [vi x7.op, vi x7.kind, vi x7.n, .string x7.s, .string x7.f, v12]) ?_ ?_
   ·rintro E w176 ⟨h175, x179, HF, rfl, S178, le177, ob180, ob181⟩
    refine Z09 (fun E w238 => ∃ (h237 : Hp) (x241 : Bool), Z44 k (Zw k) x7 x10 r30 x133 x241 = some r ∧ E = [(0, pt b1 0), (2, vi x10), (4, pt b15 0), (8, .bool x133)] ∧ Stp [b1] w0 h0 w238 h237 ∧ Hle h175 h237 ∧ OB w238 h237 b1 T2 [vi r30.1, vi r30.2.1, .bool x241] ∧ OB w238 h237 b15 47 [vi x7.op, vi x7.kind, vi x7.n, .string x7.s, .string x7.f, v12]) ?_ ?_
    ·rintro E w238 ⟨h237, x241, HF, rfl, S240, le239, ob242, ob243⟩
     refine Z09 (fun E w300 => ∃ (h299 : Hp) (x303 : Bool), Z41 k (Zw k) x7 x10 r30 x303 = some r ∧ E = [(0, pt b1 0), (2, vi x10), (4, pt b15 0)] ∧ Stp [b1] w0 h0 w300 h299 ∧ Hle h237 h299 ∧ OB w300 h299 b1 T2 [vi r30.1, vi r30.2.1, .bool x303] ∧ OB w300 h299 b15 47 [vi x7.op, vi x7.kind, vi x7.n, .string x7.s, .string x7.f, v12]) ?_ ?_
     ·rintro E w300 ⟨h299, x303, HF, rfl, S302, le301, ob304, ob305⟩
      refine Z0 <| Wm rfl rfl <| Wv rfl (Z1 rfl Z5i) <| Wv rfl (Zb rfl Z31 (OB.cell ob305 (j := 5) rfl)) <| Wm rfl rfl <| Wv rfl (Z3e rfl rfl) ?_
      obtain ⟨r306, hr307, HF⟩ := Z5 HF
      refine Wc rfl (Zd (vs := [pt b1 0, v12, vi (IntKind.i64.wrap (x10 + 1))]) rfl t_ent_85) ((IH _ (Nat.le_refl _)).2 hr307 S302.sub (rs13.mono ((s17.le).trans ((le26).trans ((s35.le).trans ((le129).trans ((le177).trans ((le239).trans le301))))))) ob304) ?_
      rintro v308 w309 ⟨h310, s311, rfl, ob312⟩
      have S313 := S302.trans s311 (Zl (.inl (by simp)) Zt)
      refine Z6 <| Z6j rfl ?_
      obtain rfl := Option.some.inj HF
      exact ⟨_, rfl, h310, S313, rfl, ob312⟩
     intro J314
     refine Z0 <| Wm rfl rfl <| Wm rfl rfl <| Wm rfl rfl <| Z27 129 HF rfl (fun HF => ?_) (fun HF => ?_)
     ·refine Wv rfl (Z1 rfl Zdz) <| Wv rfl (Zb rfl Z32 (OB.cell ob243 (j := 4) rfl)) ?_
      obtain ⟨r245, hr246, HF⟩ := Z5 HF
      refine Wc rfl (Zd (vs := [.string x7.f]) rfl t_ent_84) (Zbx _ hr246 S240.sub) ?_
      rintro _ w248 ⟨h249, s250, rfl⟩
      have S251 := S240.trans0 s250
      refine Wv rfl (Zj rfl rfl) <| Wm rfl rfl <| Z27 134 HF rfl (fun HF => ?_) (fun HF => ?_)
      ·refine Wp rfl <| Wp rfl <| Wp rfl <| Wp rfl <| Wp rfl <| Wp rfl <| Wp rfl <| Wv rfl (Zj rfl rfl) ?_
       have ob253 := (ob242.step0 s250)
       obtain ⟨r254, hr255, HF⟩ := Z5 HF
       refine Wc rfl (Zd (vs := [pt b1 0, .bool true]) rfl Z0s) (Zf _ hr255 S251.sub ob253) ?_
       rintro v256 w257 ⟨h258, s259, rfl, ob260⟩
       have S261 := S251.trans s259 (Zl (.inl (by simp)) Zt)
       refine Z6 ?_
       have ob315 := ((ob243.step0 s250).step1 s259 (Ne.symm ne19))
       refine Z01 [0, 2, 4] _ rfl ?_
       exact J314 ⟨h258, r254, HF, rfl, S261, (s250.le).trans s259.le, ob260, ob315⟩
      refine Wm rfl rfl <| Wv rfl (Z30 rfl) <| Wm rfl rfl <| Z27 137 HF rfl (fun HF => ?_) (fun HF => ?_)
      ·refine Wv rfl (Z1 rfl Zdz) ?_
       have ob263 := (ob243.step0 s250)
       refine Wv rfl (Zb rfl Z32 (OB.cell ob263 (j := 4) rfl)) <| Wv rfl (Z0d rfl rfl) <| Wv rfl (Zj rfl rfl) <| Wv rfl (Zi rfl rfl) ?_
       have ob264 := (ob242.step0 s250)
       obtain ⟨r265, hr266, HF⟩ := Z5 HF
       refine Wc rfl (Zd (vs := [pt b1 0, .bool (bEq x7.f Z1e)]) rfl Z0s) (Zf _ hr266 S251.sub ob264) ?_
       rintro v267 w268 ⟨h269, s270, rfl, ob271⟩
       have S272 := S251.trans s270 (Zl (.inl (by simp)) Zt)
       refine Z6 ?_
       have ob316 := (ob263.step1 s270 (Ne.symm ne19))
       refine Z01 [0, 2, 4] _ rfl ?_
       exact J314 ⟨h269, r265, HF, rfl, S272, (s250.le).trans s270.le, ob271, ob316⟩
      refine Wp rfl <| Wp rfl <| Wp rfl <| Wv rfl (Zi rfl rfl) <| Wv rfl (Zi rfl rfl) ?_
      have ob273 := (ob242.step0 s250)
      obtain ⟨r274, hr275, HF⟩ := Z5 HF
      refine Wc rfl (Zd (vs := [pt b1 0, .bool false]) rfl Z0s) (Zf _ hr275 S251.sub ob273) ?_
      rintro v276 w277 ⟨h278, s279, rfl, ob280⟩
      have S281 := S251.trans s279 (Zl (.inl (by simp)) Zt)
      refine Z6 ?_
      have ob317 := ((ob243.step0 s250).step1 s279 (Ne.symm ne19))
      refine Z01 [0, 2, 4] _ rfl ?_
      exact J314 ⟨h278, r274, HF, rfl, S281, (s250.le).trans s279.le, ob280, ob317⟩
     refine Wp rfl <| Wp rfl <| Wp rfl <| Wv rfl (Zi rfl rfl) <| Wm rfl rfl <| Wm rfl rfl <| Wv rfl (Z30 rfl) <| Wm rfl rfl <| Z27 137 HF rfl (fun HF => ?_) (fun HF => ?_)
     ·refine Wv rfl (Z1 rfl Zdz) <| Wv rfl (Zb rfl Z32 (OB.cell ob243 (j := 4) rfl)) <| Wv rfl (Z0d rfl rfl) <| Wv rfl (Zj rfl rfl) <| Wv rfl (Zi rfl rfl) ?_
      obtain ⟨r283, hr284, HF⟩ := Z5 HF
      refine Wc rfl (Zd (vs := [pt b1 0, .bool (bEq x7.f Z1e)]) rfl Z0s) (Zf _ hr284 S240.sub ob242) ?_
      rintro v285 w286 ⟨h287, s288, rfl, ob289⟩
      have S290 := S240.trans s288 (Zl (.inl (by simp)) Zt)
      refine Z6 ?_
      have ob318 := (ob243.step1 s288 (Ne.symm ne19))
      refine Z01 [0, 2, 4] _ rfl ?_
      exact J314 ⟨h287, r283, HF, rfl, S290, s288.le, ob289, ob318⟩
     refine Wp rfl <| Wp rfl <| Wp rfl <| Wv rfl (Zi rfl rfl) <| Wv rfl (Zi rfl rfl) ?_
     obtain ⟨r291, hr292, HF⟩ := Z5 HF
     refine Wc rfl (Zd (vs := [pt b1 0, .bool false]) rfl Z0s) (Zf _ hr292 S240.sub ob242) ?_
     rintro v293 w294 ⟨h295, s296, rfl, ob297⟩
     have S298 := S240.trans s296 (Zl (.inl (by simp)) Zt)
     refine Z6 ?_
     have ob319 := (ob243.step1 s296 (Ne.symm ne19))
     refine Z01 [0, 2, 4] _ rfl ?_
     exact J314 ⟨h295, r291, HF, rfl, S298, s296.le, ob297, ob319⟩
    intro J320
    refine Z0 <| Wm rfl rfl <| Wm rfl rfl <| Wm rfl rfl <| Z27 112 HF rfl (fun HF => ?_) (fun HF => ?_)
    ·refine Wv rfl (Z1 rfl Zgj) <| Wv rfl (Zb rfl Z32 (OB.cell ob181 (j := 3) rfl)) ?_
     obtain ⟨r183, hr184, HF⟩ := Z5 HF
     refine Wc rfl (Zd (vs := [.string x7.s]) rfl t_ent_84) (Zbx _ hr184 S178.sub) ?_
     rintro _ w186 ⟨h187, s188, rfl⟩
     have S189 := S178.trans0 s188
     refine Wv rfl (Zj rfl rfl) <| Wm rfl rfl <| Z27 117 HF rfl (fun HF => ?_) (fun HF => ?_)
     ·refine Wp rfl <| Wp rfl <| Wp rfl <| Wp rfl <| Wp rfl <| Wp rfl <| Wp rfl <| Wv rfl (Zj rfl rfl) ?_
      have ob191 := (ob180.step0 s188)
      obtain ⟨r192, hr193, HF⟩ := Z5 HF
      refine Wc rfl (Zd (vs := [pt b1 0, .bool true]) rfl Z0s) (Zf _ hr193 S189.sub ob191) ?_
      rintro v194 w195 ⟨h196, s197, rfl, ob198⟩
      have S199 := S189.trans s197 (Zl (.inl (by simp)) Zt)
      refine Z6 ?_
      have ob321 := ((ob181.step0 s188).step1 s197 (Ne.symm ne19))
      refine Z01 [0, 2, 4, 8] _ rfl ?_
      exact J320 ⟨h196, r192, HF, rfl, S199, (s188.le).trans s197.le, ob198, ob321⟩
     refine Wm rfl rfl <| Wv rfl (Z30 rfl) <| Wm rfl rfl <| Z27 120 HF rfl (fun HF => ?_) (fun HF => ?_)
     ·refine Wv rfl (Z1 rfl Zgj) ?_
      have ob201 := (ob181.step0 s188)
      refine Wv rfl (Zb rfl Z32 (OB.cell ob201 (j := 3) rfl)) <| Wv rfl (Z0d rfl rfl) <| Wv rfl (Zj rfl rfl) <| Wv rfl (Zi rfl rfl) ?_
      have ob202 := (ob180.step0 s188)
      obtain ⟨r203, hr204, HF⟩ := Z5 HF
      refine Wc rfl (Zd (vs := [pt b1 0, .bool (bEq x7.s Z1e)]) rfl Z0s) (Zf _ hr204 S189.sub ob202) ?_
      rintro v205 w206 ⟨h207, s208, rfl, ob209⟩
      have S210 := S189.trans s208 (Zl (.inl (by simp)) Zt)
      refine Z6 ?_
      have ob322 := (ob201.step1 s208 (Ne.symm ne19))
      refine Z01 [0, 2, 4, 8] _ rfl ?_
      exact J320 ⟨h207, r203, HF, rfl, S210, (s188.le).trans s208.le, ob209, ob322⟩
     refine Wp rfl <| Wp rfl <| Wp rfl <| Wv rfl (Zi rfl rfl) <| Wv rfl (Zi rfl rfl) ?_
     have ob211 := (ob180.step0 s188)
     obtain ⟨r212, hr213, HF⟩ := Z5 HF
     refine Wc rfl (Zd (vs := [pt b1 0, .bool false]) rfl Z0s) (Zf _ hr213 S189.sub ob211) ?_
     rintro v214 w215 ⟨h216, s217, rfl, ob218⟩
     have S219 := S189.trans s217 (Zl (.inl (by simp)) Zt)
     refine Z6 ?_
     have ob323 := ((ob181.step0 s188).step1 s217 (Ne.symm ne19))
     refine Z01 [0, 2, 4, 8] _ rfl ?_
     exact J320 ⟨h216, r212, HF, rfl, S219, (s188.le).trans s217.le, ob218, ob323⟩
    refine Wp rfl <| Wp rfl <| Wp rfl <| Wv rfl (Zi rfl rfl) <| Wm rfl rfl <| Wm rfl rfl <| Wv rfl (Z30 rfl) <| Wm rfl rfl <| Z27 120 HF rfl (fun HF => ?_) (fun HF => ?_)
    ·refine Wv rfl (Z1 rfl Zgj) <| Wv rfl (Zb rfl Z32 (OB.cell ob181 (j := 3) rfl)) <| Wv rfl (Z0d rfl rfl) <| Wv rfl (Zj rfl rfl) <| Wv rfl (Zi rfl rfl) ?_
     obtain ⟨r221, hr222, HF⟩ := Z5 HF
     refine Wc rfl (Zd (vs := [pt b1 0, .bool (bEq x7.s Z1e)]) rfl Z0s) (Zf _ hr222 S178.sub ob180) ?_
     rintro v223 w224 ⟨h225, s226, rfl, ob227⟩
     have S228 := S178.trans s226 (Zl (.inl (by simp)) Zt)
     refine Z6 ?_
     have ob324 := (ob181.step1 s226 (Ne.symm ne19))
     refine Z01 [0, 2, 4, 8] _ rfl ?_
     exact J320 ⟨h225, r221, HF, rfl, S228, s226.le, ob227, ob324⟩
    refine Wp rfl <| Wp rfl <| Wp rfl <| Wv rfl (Zi rfl rfl) <| Wv rfl (Zi rfl rfl) ?_
    obtain ⟨r229, hr230, HF⟩ := Z5 HF
    refine Wc rfl (Zd (vs := [pt b1 0, .bool false]) rfl Z0s) (Zf _ hr230 S178.sub ob180) ?_
    rintro v231 w232 ⟨h233, s234, rfl, ob235⟩
    have S236 := S178.trans s234 (Zl (.inl (by simp)) Zt)
    refine Z6 ?_
    have ob325 := (ob181.step1 s234 (Ne.symm ne19))
    refine Z01 [0, 2, 4, 8] _ rfl ?_
    exact J320 ⟨h233, r229, HF, rfl, S236, s234.le, ob235, ob325⟩
   intro J326
   refine Z0 <| Wm rfl rfl <| Wv rfl (Z1 rfl Z5i) <| Wv rfl (Zb rfl Z31 (OB.cell ob136 (j := 5) rfl)) ?_
   obtain ⟨A137, c138, rfl, rs139⟩ := RS.form (rs13.mono ((s17.le).trans ((le26).trans ((s35.le).trans le129))))
   refine Wv rfl (Z1i rfl Z0v) <| Wm rfl rfl <| Wv rfl (Z1g rfl rfl) <| Wm rfl rfl <| Z27 94 HF rfl (fun HF => ?_) (fun HF => ?_)
   ·refine Wv rfl (Z1 rfl Z34) <| Wv rfl (Zb rfl Z04 (OB.cell ob136 (j := 0) rfl)) <| Wv rfl (Z1g rfl rfl) <| Wm rfl rfl <| Z27 98 HF rfl (fun HF => ?_) (fun HF => ?_)
    ·refine Wp rfl <| Wp rfl <| Wp rfl <| Wp rfl <| Wp rfl <| Wp rfl <| Wp rfl <| Wp rfl <| Wv rfl (Zj rfl rfl) <| Wv rfl (Zj rfl rfl) ?_
     obtain ⟨r142, hr143, HF⟩ := Z5 HF
     refine Wc rfl (Zd (vs := [pt b1 0, .bool true]) rfl Z0s) (Zf _ hr143 S130.sub ob135) ?_
     rintro v144 w145 ⟨h146, s147, rfl, ob148⟩
     have S149 := S130.trans s147 (Zl (.inl (by simp)) Zt)
     refine Z6 ?_
     have ob327 := (ob136.step1 s147 (Ne.symm ne19))
     refine Z01 [0, 2, 4, 7, 8] _ rfl ?_
     exact J326 ⟨h146, r142, HF, rfl, S149, s147.le, ob148, ob327⟩
    refine Wv rfl (Z1 rfl Zbp) <| Wv rfl (Zb rfl Z04 (OB.cell ob136 (j := 1) rfl)) <| Wv rfl (Z1g rfl rfl) <| Wm rfl rfl <| Z27 102 HF rfl (fun HF => ?_) (fun HF => ?_)
    ·refine Wv rfl (Z1 rfl Zbm) <| Wv rfl (Zb rfl Z04 (OB.cell ob136 (j := 2) rfl)) <| Wv rfl (Z1g rfl rfl) <| Wv rfl (Zj rfl rfl) <| Wv rfl (Zi rfl rfl) <| Wv rfl (Zj rfl rfl) ?_
     obtain ⟨r151, hr152, HF⟩ := Z5 HF
     refine Wc rfl (Zd (vs := [pt b1 0, .bool ((x7.n : Int) == 0)]) rfl Z0s) (Zf _ hr152 S130.sub ob135) ?_
     rintro v153 w154 ⟨h155, s156, rfl, ob157⟩
     have S158 := S130.trans s156 (Zl (.inl (by simp)) Zt)
     refine Z6 ?_
     have ob328 := (ob136.step1 s156 (Ne.symm ne19))
     refine Z01 [0, 2, 4, 7, 8] _ rfl ?_
     exact J326 ⟨h155, r151, HF, rfl, S158, s156.le, ob157, ob328⟩
    refine Wp rfl <| Wp rfl <| Wp rfl <| Wv rfl (Zi rfl rfl) <| Wv rfl (Zi rfl rfl) <| Wv rfl (Zj rfl rfl) ?_
    obtain ⟨r159, hr160, HF⟩ := Z5 HF
    refine Wc rfl (Zd (vs := [pt b1 0, .bool false]) rfl Z0s) (Zf _ hr160 S130.sub ob135) ?_
    rintro v161 w162 ⟨h163, s164, rfl, ob165⟩
    have S166 := S130.trans s164 (Zl (.inl (by simp)) Zt)
    refine Z6 ?_
    have ob329 := (ob136.step1 s164 (Ne.symm ne19))
    refine Z01 [0, 2, 4, 7, 8] _ rfl ?_
    exact J326 ⟨h163, r159, HF, rfl, S166, s164.le, ob165, ob329⟩
   refine Wp rfl <| Wp rfl <| Wp rfl <| Wp rfl <| Wp rfl <| Wp rfl <| Wp rfl <| Wp rfl <| Wp rfl <| Wp rfl <| Wp rfl <| Wp rfl <| Wp rfl <| Wv rfl (Zi rfl rfl) ?_
   obtain ⟨r167, hr168, HF⟩ := Z5 HF
   refine Wc rfl (Zd (vs := [pt b1 0, .bool false]) rfl Z0s) (Zf _ hr168 S130.sub ob135) ?_
   rintro v169 w170 ⟨h171, s172, rfl, ob173⟩
   have S174 := S130.trans s172 (Zl (.inl (by simp)) Zt)
   refine Z6 ?_
   have ob330 := (ob136.step1 s172 (Ne.symm ne19))
   refine Z01 [0, 2, 4, 7, 8] _ rfl ?_
   exact J326 ⟨h171, r167, HF, rfl, S174, s172.le, ob173, ob330⟩
  intro J331
  refine Z0r <| Zc <| Z0 <| Wv rfl (Z1 rfl Z34) ?_
  have ob38 := (ob29.step1 s35 (Ne.symm ne19))
  refine Wv rfl (Zb rfl Z04 (OB.cell ob38 (j := 0) rfl)) <| Wv rfl (Z1g rfl rfl) <| Wa rfl rfl <| Z6 <| Z4 <| Z15 HF rfl (fun HF => ?_) (fun HF => ?_)
  ·refine Zc <| Z0 <| Wa rfl rfl <| Z6 <| Z4 <| Z0 <| Wm rfl rfl <| Wv rfl (Z1 rfl Zbm) <| Wv rfl (Zb rfl Z04 (OB.cell ob38 (j := 2) rfl)) <| Wv rfl (ov_geq rfl rfl) <| Wm rfl rfl <| Z27 34 HF rfl (fun HF => ?_) (fun HF => ?_)
   ·refine Wv rfl (Z1 rfl Zbm) <| Wv rfl (Zb rfl Z04 (OB.cell ob38 (j := 2) rfl)) <| Wv rfl (Zh1 rfl rfl) <| Wv rfl (Zj rfl rfl) <| Wm rfl rfl <| Z27 39 HF rfl (fun HF => ?_) (fun HF => ?_)
    ·refine Wv rfl (Z1 rfl Zbp) <| Wv rfl (Zb rfl Z04 (OB.cell ob38 (j := 1) rfl)) <| Wv rfl (Z1g rfl rfl) <| Wm rfl rfl <| Z27 43 HF rfl (fun HF => ?_) (fun HF => ?_)
     ·refine Wp rfl <| Wp rfl <| Wp rfl <| Wv rfl (Zj rfl rfl) <| Wm rfl rfl <| Wp rfl <| Wp rfl <| Wp rfl <| Wp rfl <| Wp rfl <| Wp rfl <| Wp rfl <| Wp rfl <| Wv rfl (Zj rfl rfl) <| Wv rfl (Zj rfl rfl) ?_
      obtain ⟨r43, hr44, HF⟩ := Z5 HF
      refine Wc rfl (Zd (vs := [pt b1 0, .bool true]) rfl Z0s) (Zf _ hr44 S37.sub ob36) ?_
      rintro v45 w46 ⟨h47, s48, rfl, ob49⟩
      have S50 := S37.trans s48 (Zl (.inl (by simp)) Zt)
      refine Z6 <| Zy ?_
      have ob332 := (ob38.step1 s48 (Ne.symm ne19))
      refine Z01 [0, 2, 4, 6, 7, 8] _ rfl ?_
      exact J331 ⟨h47, 0, false, false, r43, HF, rfl, S50, s48.le, ob49, ob332⟩
     refine Wv rfl (Z1 rfl Zbp) <| Wv rfl (Zb rfl Z04 (OB.cell ob38 (j := 1) rfl)) <| Wv rfl (Z1g rfl rfl) <| Wv rfl (Zi rfl rfl) <| Wm rfl rfl <| Z27 48 HF rfl (fun HF => ?_) (fun HF => ?_)
     ·refine Wp rfl <| Wp rfl <| Wp rfl <| Wp rfl <| Wp rfl <| Wp rfl <| Wp rfl <| Wp rfl <| Wv rfl (Zj rfl rfl) <| Wv rfl (Zj rfl rfl) ?_
      obtain ⟨r52, hr53, HF⟩ := Z5 HF
      refine Wc rfl (Zd (vs := [pt b1 0, .bool true]) rfl Z0s) (Zf _ hr53 S37.sub ob36) ?_
      rintro v54 w55 ⟨h56, s57, rfl, ob58⟩
      have S59 := S37.trans s57 (Zl (.inl (by simp)) Zt)
      refine Z6 <| Zy ?_
      have ob333 := (ob38.step1 s57 (Ne.symm ne19))
      refine Z01 [0, 2, 4, 6, 7, 8] _ rfl ?_
      exact J331 ⟨h56, 0, false, false, r52, HF, rfl, S59, s57.le, ob58, ob333⟩
     refine Wv rfl (Z1 rfl Zbp) <| Wv rfl (Zb rfl Z04 (OB.cell ob38 (j := 1) rfl)) <| Wv rfl (Z1g rfl rfl) <| Wm rfl rfl <| Z27 52 HF rfl (fun HF => ?_) (fun HF => ?_)
     ·refine Wv rfl (Z1 rfl Zbm) <| Wv rfl (Zb rfl Z04 (OB.cell ob38 (j := 2) rfl)) <| Wv rfl (Zh1 rfl rfl) <| Wv rfl (Zj rfl rfl) <| Wv rfl (Zi rfl rfl) <| Wv rfl (Zj rfl rfl) ?_
      obtain ⟨r61, hr62, HF⟩ := Z5 HF
      refine Wc rfl (Zd (vs := [pt b1 0, .bool (decide ((x7.n : Int) ≤ 1))]) rfl Z0s) (Zf _ hr62 S37.sub ob36) ?_
      rintro v63 w64 ⟨h65, s66, rfl, ob67⟩
      have S68 := S37.trans s66 (Zl (.inl (by simp)) Zt)
      refine Z6 <| Zy ?_
      have ob334 := (ob38.step1 s66 (Ne.symm ne19))
      refine Z01 [0, 2, 4, 6, 7, 8] _ rfl ?_
      exact J331 ⟨h65, 0, false, false, r61, HF, rfl, S68, s66.le, ob67, ob334⟩
     refine Wp rfl <| Wp rfl <| Wp rfl <| Wv rfl (Zi rfl rfl) <| Wv rfl (Zi rfl rfl) <| Wv rfl (Zj rfl rfl) ?_
     obtain ⟨r69, hr70, HF⟩ := Z5 HF
     refine Wc rfl (Zd (vs := [pt b1 0, .bool false]) rfl Z0s) (Zf _ hr70 S37.sub ob36) ?_
     rintro v71 w72 ⟨h73, s74, rfl, ob75⟩
     have S76 := S37.trans s74 (Zl (.inl (by simp)) Zt)
     refine Z6 <| Zy ?_
     have ob335 := (ob38.step1 s74 (Ne.symm ne19))
     refine Z01 [0, 2, 4, 6, 7, 8] _ rfl ?_
     exact J331 ⟨h73, 0, false, false, r69, HF, rfl, S76, s74.le, ob75, ob335⟩
    refine Wp rfl <| Wp rfl <| Wp rfl <| Wp rfl <| Wp rfl <| Wp rfl <| Wp rfl <| Wp rfl <| Wp rfl <| Wp rfl <| Wp rfl <| Wp rfl <| Wp rfl <| Wp rfl <| Wp rfl <| Wp rfl <| Wp rfl <| Wp rfl <| Wv rfl (Zi rfl rfl) ?_
    obtain ⟨r77, hr78, HF⟩ := Z5 HF
    refine Wc rfl (Zd (vs := [pt b1 0, .bool false]) rfl Z0s) (Zf _ hr78 S37.sub ob36) ?_
    rintro v79 w80 ⟨h81, s82, rfl, ob83⟩
    have S84 := S37.trans s82 (Zl (.inl (by simp)) Zt)
    refine Z6 <| Zy ?_
    have ob336 := (ob38.step1 s82 (Ne.symm ne19))
    refine Z01 [0, 2, 4, 6, 7, 8] _ rfl ?_
    exact J331 ⟨h81, 0, false, false, r77, HF, rfl, S84, s82.le, ob83, ob336⟩
   refine Wp rfl <| Wp rfl <| Wp rfl <| Wv rfl (Zi rfl rfl) <| Wm rfl rfl <| Wp rfl <| Wp rfl <| Wp rfl <| Wp rfl <| Wp rfl <| Wp rfl <| Wp rfl <| Wp rfl <| Wp rfl <| Wp rfl <| Wp rfl <| Wp rfl <| Wp rfl <| Wp rfl <| Wp rfl <| Wp rfl <| Wp rfl <| Wp rfl <| Wv rfl (Zi rfl rfl) ?_
   obtain ⟨r85, hr86, HF⟩ := Z5 HF
   refine Wc rfl (Zd (vs := [pt b1 0, .bool false]) rfl Z0s) (Zf _ hr86 S37.sub ob36) ?_
   rintro v87 w88 ⟨h89, s90, rfl, ob91⟩
   have S92 := S37.trans s90 (Zl (.inl (by simp)) Zt)
   refine Z6 <| Zy ?_
   have ob337 := (ob38.step1 s90 (Ne.symm ne19))
   refine Z01 [0, 2, 4, 6, 7, 8] _ rfl ?_
   exact J331 ⟨h89, 0, false, false, r85, HF, rfl, S92, s90.le, ob91, ob337⟩
  refine Zc <| Z0 <| Wv rfl (Z1 rfl Z34) <| Wv rfl (Zb rfl Z04 (OB.cell ob38 (j := 0) rfl)) <| Wv rfl (Z1g rfl rfl) <| Wa rfl rfl <| Z6 <| Z4 <| Z15 HF rfl (fun HF => ?_) (fun HF => ?_)
  ·refine Z0 <| Wa rfl rfl <| Wa rfl rfl <| Z6 <| Zy <| Z01 [0, 2, 4, 6, 7, 8] _ rfl ?_
   exact J331 ⟨h34, 0, true, false, r30.2.2, HF, rfl, S37, Hle.refl _, ob36, ob38⟩
  refine Zc <| Z0 <| Wv rfl (Z1 rfl Z34) <| Wv rfl (Zb rfl Z04 (OB.cell ob38 (j := 0) rfl)) <| Wv rfl (Z1g rfl rfl) <| Wa rfl rfl <| Z6 <| Z4 <| Z15 HF rfl (fun HF => ?_) (fun HF => ?_)
  ·refine Z0 <| Wa rfl rfl <| Wa rfl rfl <| Wa rfl rfl <| Z6 <| Zy <| Z01 [0, 2, 4, 6, 7, 8] _ rfl ?_
   exact J331 ⟨h34, 0, true, true, r30.2.2, HF, rfl, S37, Hle.refl _, ob36, ob38⟩
  refine Zc <| Z0 <| Wv rfl (Z1 rfl Z34) <| Wv rfl (Zb rfl Z04 (OB.cell ob38 (j := 0) rfl)) <| Wv rfl (Z1g rfl rfl) <| Wa rfl rfl <| Z6 <| Z4 <| Z15 HF rfl (fun HF => ?_) (fun HF => ?_)
  ·refine Z0 <| Wa rfl rfl <| Wa rfl rfl <| Z6 <| Zy <| Z01 [0, 2, 4, 6, 7, 8] _ rfl ?_
   exact J331 ⟨h34, 1, true, false, r30.2.2, HF, rfl, S37, Hle.refl _, ob36, ob38⟩
  refine Zc <| Z0 <| Wv rfl (Z1 rfl Z34) <| Wv rfl (Zb rfl Z04 (OB.cell ob38 (j := 0) rfl)) <| Wv rfl (Z1g rfl rfl) <| Wa rfl rfl <| Z6 <| Z4 <| Z15 HF rfl (fun HF => ?_) (fun HF => ?_)
  ·refine Z0 <| Wv rfl (Z1 rfl Z5i) <| Wv rfl (Zb rfl Z31 (OB.cell ob38 (j := 5) rfl)) ?_
   obtain ⟨A97, c98, rfl, rs99⟩ := RS.form (rs13.mono ((s17.le).trans ((le26).trans s35.le)))
   refine Wv rfl (Z1i rfl Z0v) <| Wa rfl rfl <| Wa rfl rfl <| Z6 <| Zy <| Z01 [0, 2, 4, 6, 7, 8] _ rfl ?_
   exact J331 ⟨h34, (x7.args.length : Int), true, false, r30.2.2, HF, rfl, S37, Hle.refl _, ob36, ob38⟩
  refine Z09 (fun E w102 => ∃ (h101 : Hp) (x105 : Bool), Z8m k (Zw k) x7 x10 r30 x105 = some r ∧ E = [(0, pt b1 0), (2, vi x10), (4, pt b15 0), (6, vi 2), (7, .bool false), (8, .bool false), (79, .bool x105)] ∧ Stp [b1] w0 h0 w102 h101 ∧ Hle h34 h101 ∧ OB w102 h101 b1 T2 [vi r30.1, vi r30.2.1, .bool r30.2.2] ∧ OB w102 h101 b15 47 [vi x7.op, vi x7.kind, vi x7.n, .string x7.s, .string x7.f, v12]) ?_ ?_
  ·rintro E w102 ⟨h101, x105, HF, rfl, S104, le103, ob106, ob107⟩
   refine Z15 HF rfl (fun HF => ?_) (fun HF => ?_)
   ·refine Z0 <| Wa rfl rfl <| Z6 <| Zy <| Z01 [0, 2, 4, 6, 7, 8] _ rfl ?_
    exact J331 ⟨h101, 1, false, false, r30.2.2, HF, rfl, S104, le103, ob106, ob107⟩
   refine Z0 <| Wm rfl rfl <| Wv rfl (Z1 rfl Z34) <| Wv rfl (Zb rfl Z04 (OB.cell ob107 (j := 0) rfl)) <| Wv rfl (ov_geq rfl rfl) <| Wm rfl rfl <| Z27 20 HF rfl (fun HF => ?_) (fun HF => ?_)
   ·refine Wv rfl (Z1 rfl Z34) <| Wv rfl (Zb rfl Z04 (OB.cell ob107 (j := 0) rfl)) <| Wv rfl (Zh1 rfl rfl) <| Wv rfl (Zj rfl rfl) ?_
    obtain ⟨r110, hr111, HF⟩ := Z5 HF
    refine Wc rfl (Zd (vs := [pt b1 0, .bool (decide ((x7.op : Int) ≤ 21))]) rfl Z0s) (Zf _ hr111 S104.sub ob106) ?_
    rintro v112 w113 ⟨h114, s115, rfl, ob116⟩
    have S117 := S104.trans s115 (Zl (.inl (by simp)) Zt)
    refine Z6 <| Zy ?_
    have ob338 := (ob107.step1 s115 (Ne.symm ne19))
    refine Z01 [0, 2, 4, 6, 7, 8] _ rfl ?_
    exact J331 ⟨h114, 2, false, false, r110, HF, rfl, S117, (le103).trans s115.le, ob116, ob338⟩
   refine Wp rfl <| Wp rfl <| Wp rfl <| Wv rfl (Zi rfl rfl) ?_
   obtain ⟨r118, hr119, HF⟩ := Z5 HF
   refine Wc rfl (Zd (vs := [pt b1 0, .bool false]) rfl Z0s) (Zf _ hr119 S104.sub ob106) ?_
   rintro v120 w121 ⟨h122, s123, rfl, ob124⟩
   have S125 := S104.trans s123 (Zl (.inl (by simp)) Zt)
   refine Z6 <| Zy ?_
   have ob339 := (ob107.step1 s123 (Ne.symm ne19))
   refine Z01 [0, 2, 4, 6, 7, 8] _ rfl ?_
   exact J331 ⟨h122, 2, false, false, r118, HF, rfl, S125, (le103).trans s123.le, ob124, ob339⟩
  intro J126
  refine Z0 <| Wv rfl (Z1 rfl Z34) <| Wv rfl (Zb rfl Z04 (OB.cell ob38 (j := 0) rfl)) <| Wv rfl (Z1g rfl rfl) <| Wm rfl rfl <| Z27 83 HF rfl (fun HF => ?_) (fun HF => ?_)
  ·refine Wp rfl <| Wp rfl <| Wp rfl <| Wv rfl (Zj rfl rfl) <| Wa rfl rfl <| Z6 <| Z01 [0, 2, 4, 6, 7, 8, 79] _ rfl ?_
   exact J126 ⟨h34, true, HF, rfl, S37, Hle.refl _, ob36, ob38⟩
  refine Wv rfl (Z1 rfl Z34) <| Wv rfl (Zb rfl Z04 (OB.cell ob38 (j := 0) rfl)) <| Wv rfl (Z1g rfl rfl) <| Wv rfl (Zi rfl rfl) <| Wa rfl rfl <| Z6 <| Z01 [0, 2, 4, 6, 7, 8, 79] _ rfl ?_
  exact J126 ⟨h34, (x7.op : Int) == 7, HF, rfl, S37, Hle.refl _, ob36, ob38⟩
 intro J340
 refine Zc <| Z0 <| Wm rfl rfl <| Wv rfl (Zp rfl) <| Wv rfl (Z1 rfl Z6f) ?_
 have ob22 := (ob6.step0 s17)
 refine Wv rfl (Zb rfl Z76 (OB.cell ob22 (j := 2) rfl)) <| Z6 <| Z4 <| Z15 HF rfl (fun HF => ?_) (fun HF => ?_)
 ·refine Z0b <| Zv <| WQ.ret0 rfl ?_
  obtain rfl := Option.some.inj HF
  exact ⟨_, rfl, h0, S21, rfl, ob22⟩
 refine Zq <| Z01 [0, 2, 4] _ rfl ?_
 exact J340 ⟨h0, HF, rfl, S21, Hle.refl _, ob22, ob18⟩
theorem s_ref02_Size_Exprs (k : Nat) (IH : ∀ j, j ≤ k → Z9i (Zw j).ref02_Size_Expr ∧ Z70 (Zw j).ref02_Size_Exprs) : Z70 (Zfn k (Zw k)) := by
 intro x3 x4 x5 xs7 x10 r HF w0 h0 b1 T2 v8 hs0 rs9 ob6
 have S0 : Stp [b1] w0 h0 w0 h0 := Stp.refl hs0 _
 have lt11 : b1 < w0.heap.size := OB.lt ob6
 refine Z4o (n := 27) Tryz.func85 rfl Tryz.ntmps85 rfl [(0, pt b1 0), (1, v8), (2, vi x10)] rfl <| Zc <| Z0 <| Wa rfl rfl <| Z6 <| Z4 <| Z0r <| Z5v <| Z99 [0, 1, 2, 6] [(0, pt b1 0), (1, v8), (2, vi x10), (6, vi 0)] rfl <| Z5u (K := k) (fun j E w13 => ∃ (h12 : Hp) (x16 : Int) (x17 : Int) (x18 : Int) (x19 : Bool), (Zw j).ref02_Size_Exprs_l1 xs7 x10 x16 x17 x18 x19 = some r ∧ E = [(0, pt b1 0), (1, v8), (2, vi x10), (6, vi x16)] ∧ Stp [b1] w0 h0 w13 h12 ∧ Hle h0 h12 ∧ OB w13 h12 b1 T2 [vi x17, vi x18, .bool x19]) ?_ ?_ (j := k) (Nat.le_refl _) ?_
 ·rintro E w13 ⟨_, _, _, _, _, HF, _⟩; cases HF
 ·rintro j21 hj23 IHL22 E w13 ⟨h12, x16, x17, x18, x19, HF, rfl, S15, le14, ob20⟩
  refine Z09 (fun E w37 => ∃ (h36 : Hp), Z7x j21 (Zw j21) xs7 x10 x16 x17 x18 x19 = some r ∧ E = [(0, pt b1 0), (1, v8), (2, vi x10), (6, vi x16)] ∧ Stp [b1] w0 h0 w37 h36 ∧ Hle h12 h36 ∧ OB w37 h36 b1 T2 [vi x17, vi x18, .bool x19]) ?_ ?_
  ·rintro E w37 ⟨h36, HF, rfl, S39, le38, ob40⟩
   refine Zc <| Z0r <| Z0 <| Wm rfl rfl <| Wm rfl rfl <| Wm rfl rfl ?_
   obtain ⟨A41, c42, rfl, rs43⟩ := RS.form (rs9.mono ((le14).trans le38))
   obtain ⟨e44, he45, HF⟩ := Z5 HF
   obtain ⟨b46, o47, rfl, h49, h50, ra48⟩ := RS.atO rs43 he45
   obtain ⟨cs51, r52, hc53⟩ := ra48
   refine Wv rfl (Z1p rfl rfl Z0v Z0l h49 h50) <| Wv rfl (Z2t (cs := cs51) rfl Z54 (by rw [Rp.len r52]; exact Z0l) (fun j v hv => S39.sub.at_ _ _ _ (hc53 j v hv))) <| Wm rfl rfl ?_
   obtain ⟨r54, hr55, HF⟩ := Z5 HF
   refine Wc rfl (Zd (vs := [pt b1 0, .agg cs51.toArray, vi x10]) rfl t_ent_49) ((IH _ (Nat.le_trans (Nat.le_of_succ_le hj23) (Nat.le_refl _))).1 hr55 S39.sub r52 ob40) ?_
   rintro v56 w57 ⟨h58, s59, rfl, ob60⟩
   have S61 := S39.trans s59 (Zl (.inl (by simp)) Zt)
   refine Z6 <| Zy <| Z4 <| Z0 <| Wm rfl rfl <| Wv rfl (Z3e rfl rfl) <| Wa rfl rfl <| Z6 <| Z2p <| Z99 [0, 1, 2, 6] [(0, pt b1 0), (1, sl b46 o47 (xs7).length c42), (2, vi x10), (6, vi (IntKind.i64.wrap (x16 + 1)))] rfl ?_
   exact IHL22 j21 (Nat.le_refl _) _ _ ⟨h58, IntKind.i64.wrap (x16 + 1), r54.1, r54.2.1, r54.2.2, HF, rfl, S61, (le14).trans ((le38).trans s59.le), ob60⟩
  intro J62
  refine Z09 (fun E w29 => ∃ (h28 : Hp) (x32 : Bool), Z3p j21 (Zw j21) xs7 x10 x16 x17 x18 x19 x32 = some r ∧ E = [(0, pt b1 0), (1, v8), (2, vi x10), (6, vi x16), (17, .bool x32)] ∧ Stp [b1] w0 h0 w29 h28 ∧ Hle h12 h28 ∧ OB w29 h28 b1 T2 [vi x17, vi x18, .bool x19]) ?_ ?_
  ·rintro E w29 ⟨h28, x32, HF, rfl, S31, le30, ob33⟩
   refine Z15 HF rfl (fun HF => ?_) (fun HF => ?_)
   ·refine Zq <| Z01 [0, 1, 2, 6] _ rfl ?_
    exact J62 ⟨h28, HF, rfl, S31, le30, ob33⟩
   refine Z66 <| Z05 <| Z05 <| Z1m <| Z6j rfl ?_
   obtain rfl := Option.some.inj HF
   exact ⟨_, rfl, h28, S31, rfl, ob33⟩
  intro J35
  refine Z0 <| Wm rfl rfl <| Wm rfl rfl ?_
  obtain ⟨A24, c25, rfl, rs26⟩ := RS.form (rs9.mono (le14))
  refine Wv rfl (Z1i rfl Z0v) <| Wv rfl (Zdk rfl rfl) <| Wm rfl rfl <| Z27 11 HF rfl (fun HF => ?_) (fun HF => ?_)
  ·refine Wm rfl rfl <| Wv rfl (Zp rfl) <| Wv rfl (Z1 rfl Z6f) <| Wv rfl (Zb rfl Z76 (OB.cell ob20 (j := 2) rfl)) <| Wv rfl (Z30 rfl) <| Wv rfl (Zj rfl rfl) <| Z6 <| Z01 [0, 1, 2, 6, 17] _ rfl ?_
   exact J35 ⟨h12, !x19, HF, rfl, S15, Hle.refl _, ob20⟩
  refine Wp rfl <| Wp rfl <| Wp rfl <| Wp rfl <| Wp rfl <| Wv rfl (Zi rfl rfl) <| Z6 <| Z01 [0, 1, 2, 6, 17] _ rfl ?_
  exact J35 ⟨h12, false, HF, rfl, S15, Hle.refl _, ob20⟩
 exact ⟨h0, 0, x3, x4, x5, HF, rfl, S0, Hle.refl _, ob6⟩
theorem all_ref02_Size_Expr : ∀ k j, j ≤ k → Z9i (Zw j).ref02_Size_Expr ∧ Z70 (Zw j).ref02_Size_Exprs := by
  intro k
  induction k with
  | zero =>
    intro j hj
    obtain rfl : j = 0 := by omega
    exact ⟨(fun _ _ _ _ _ _ => by intro h; cases h), (fun _ _ _ _ _ _ => by intro h; cases h)⟩
  | succ k ih =>
    intro j hj
    by_cases h : j ≤ k
    · exact ih j h
    · obtain rfl : j = k + 1 := by omega
      exact ⟨s_ref02_Size_Expr k ih, s_ref02_Size_Exprs k ih⟩
theorem Zah (k : Nat) : Z70 (Z1b k) := (all_ref02_Size_Expr k k (Nat.le_refl _)).2
def Z8u (φ : Int → Int → Bool → (List ByteArray) → Int → Option Bool) : Prop := ∀ ⦃x3 : Int⦄ ⦃x4 : Int⦄ ⦃x5 : Bool⦄ ⦃xs7 : List ByteArray⦄ ⦃x10 : Int⦄ ⦃r : Bool⦄, φ x3 x4 x5 xs7 x10 = some r → ∀ ⦃w0 : World⦄ ⦃h0 : Hp⦄ ⦃b1 : Nat⦄ ⦃T2 : Nat⦄ ⦃v8 : Value⦄, Sub h0 w0 → RS h0 v8 xs7 → OB w0 h0 b1 T2 [.int .i64 x3, .int .i64 x4, .bool x5] →
  Calls Tryz.prog 135 #[.pointer (some ⟨b1, 0, none⟩), v8, .int .i64 x10] w0 fun e w1 => ∃ v, e = .returned v ∧ ∃ h1, Stp [b1] w0 h0 w1 h1 ∧ v = .tuple #[] ∧ (OB w1 h1 b1 T2 [.int .i64 x3, .int .i64 x4, .bool r])
theorem s_ref02_Size_Named (k : Nat) (IH : ∀ j, j ≤ k → Z8u (Z1f j).ref02_Size_Named) : Z8u (Z8l k (Z1f k)) := by
 intro x3 x4 x5 xs7 x10 r HF w0 h0 b1 T2 v8 hs0 rs9 ob6
 have S0 : Stp [b1] w0 h0 w0 h0 := Stp.refl hs0 _
 have lt11 : b1 < w0.heap.size := OB.lt ob6
 refine Z4o (n := 33) Tryz.func135 rfl Tryz.ntmps135 rfl [(0, pt b1 0), (1, v8), (2, vi x10)] rfl <| Zc <| Z0 <| Wm rfl rfl <| Wm rfl rfl ?_
 obtain ⟨A12, c13, rfl, rs14⟩ := RS.form rs9
 refine Wv rfl (Z1i rfl Z4v) <| Wm rfl rfl <| Wv rfl (Z1g rfl rfl) ?_
 obtain ⟨r15, hr16, HF⟩ := Z5 HF
 refine Wc rfl (Zd (vs := [pt b1 0, .bool (((xs7.length : Int) : Int) == x10)]) rfl Z0s) (Zf _ hr16 S0.sub ob6) ?_
 rintro v17 w18 ⟨h19, s20, rfl, ob21⟩
 have S22 := S0.trans s20 (Zl (.inl (by simp)) Zt)
 refine Z6 <| Z4 <| Zc <| Z0 <| Wa rfl rfl <| Z6 <| Z4 <| Z0r <| Z5v <| Z99 [0, 1, 6] [(0, pt b1 0), (1, .slice A12 (xs7).length c13), (6, vi 0)] rfl <| Z5u (K := k) (fun j E w24 => ∃ (h23 : Hp) (x27 : Int) (x28 : Bool), (Z1f j).ref02_Size_Named_l1 x3 x4 xs7 x27 x28 = some r ∧ E = [(0, pt b1 0), (1, .slice A12 (xs7).length c13), (6, vi x27)] ∧ Stp [b1] w0 h0 w24 h23 ∧ Hle h19 h23 ∧ OB w24 h23 b1 T2 [vi x3, vi x4, .bool x28]) ?_ ?_ (j := k) (Nat.le_refl _) ?_
 ·rintro E w24 ⟨_, _, _, HF, _⟩; cases HF
 ·rintro j30 hj32 IHL31 E w24 ⟨h23, x27, x28, HF, rfl, S26, le25, ob29⟩
  refine Z09 (fun E w43 => ∃ (h42 : Hp), Zaq j30 (Z1f j30) x3 x4 xs7 x27 x28 = some r ∧ E = [(0, pt b1 0), (1, .slice A12 (xs7).length c13), (6, vi x27)] ∧ Stp [b1] w0 h0 w43 h42 ∧ Hle h23 h42 ∧ OB w43 h42 b1 T2 [vi x3, vi x4, .bool x28]) ?_ ?_
  ·rintro E w43 ⟨h42, HF, rfl, S45, le44, ob46⟩
   refine Zc <| Z0r <| Z0 <| Wm rfl rfl <| Wm rfl rfl <| Wm rfl rfl ?_
   obtain ⟨e47, he48, HF⟩ := Z5 HF
   obtain ⟨b49, o50, rfl, h52, h53, ra51⟩ := RS.atO (rs14.mono ((s20.le).trans ((le25).trans le44))) he48
   obtain ⟨cs54, r55, hc56⟩ := ra51
   obtain rfl := (show cs54 = _ from r55)
   refine Wv rfl (Z1p rfl rfl Z4v t_size_9 h52 h53) <| Wv rfl (Zb rfl Z32 (S45.sub.at_ _ _ _ (hc56 0 _ rfl))) ?_
   obtain ⟨r57, hr58, HF⟩ := Z5 HF
   refine Wc rfl (Zd (vs := [.string e47]) rfl t_ent_84) (Zbx _ hr58 S45.sub) ?_
   rintro _ w60 ⟨h61, s62, rfl⟩
   have S63 := S45.trans0 s62
   have ob64 := (ob46.step0 s62)
   obtain ⟨r65, hr66, HF⟩ := Z5 HF
   refine Wc rfl (Zd (vs := [pt b1 0, .bool r57]) rfl Z0s) (Zf _ hr66 S63.sub ob64) ?_
   rintro v67 w68 ⟨h69, s70, rfl, ob71⟩
   have S72 := S63.trans s70 (Zl (.inl (by simp)) Zt)
   refine Z6 <| Zy <| Z4 <| Z0 <| Wm rfl rfl <| Wv rfl (Z3e rfl rfl) <| Wa rfl rfl <| Z6 <| Z2p <| Z99 [0, 1, 6] [(0, pt b1 0), (1, sl b49 o50 (xs7).length c13), (6, vi (IntKind.i64.wrap (x27 + 1)))] rfl ?_
   exact IHL31 j30 (Nat.le_refl _) _ _ ⟨h69, IntKind.i64.wrap (x27 + 1), r65, HF, rfl, S72, (le25).trans ((le44).trans ((s62.le).trans s70.le)), ob71⟩
  intro J73
  refine Z09 (fun E w35 => ∃ (h34 : Hp) (x38 : Bool), Z4h j30 (Z1f j30) x3 x4 xs7 x27 x28 x38 = some r ∧ E = [(0, pt b1 0), (1, .slice A12 (xs7).length c13), (6, vi x27), (23, .bool x38)] ∧ Stp [b1] w0 h0 w35 h34 ∧ Hle h23 h34 ∧ OB w35 h34 b1 T2 [vi x3, vi x4, .bool x28]) ?_ ?_
  ·rintro E w35 ⟨h34, x38, HF, rfl, S37, le36, ob39⟩
   refine Z15 HF rfl (fun HF => ?_) (fun HF => ?_)
   ·refine Zq <| Z01 [0, 1, 6] _ rfl ?_
    exact J73 ⟨h34, HF, rfl, S37, le36, ob39⟩
   refine Z66 <| Z05 <| Z05 <| Z1m <| Z6j rfl ?_
   obtain rfl := Option.some.inj HF
   exact ⟨_, rfl, h34, S37, rfl, ob39⟩
  intro J41
  refine Z0 <| Wm rfl rfl <| Wm rfl rfl <| Wv rfl (Z1i rfl Z4v) <| Wv rfl (Zdk rfl rfl) <| Wm rfl rfl <| Z27 17 HF rfl (fun HF => ?_) (fun HF => ?_)
  ·refine Wm rfl rfl <| Wv rfl (Zp rfl) <| Wv rfl (Z1 rfl Z6f) <| Wv rfl (Zb rfl Z76 (OB.cell ob29 (j := 2) rfl)) <| Wv rfl (Z30 rfl) <| Wv rfl (Zj rfl rfl) <| Z6 <| Z01 [0, 1, 6, 23] _ rfl ?_
   exact J41 ⟨h23, !x28, HF, rfl, S26, Hle.refl _, ob29⟩
  refine Wp rfl <| Wp rfl <| Wp rfl <| Wp rfl <| Wp rfl <| Wv rfl (Zi rfl rfl) <| Z6 <| Z01 [0, 1, 6, 23] _ rfl ?_
  exact J41 ⟨h23, false, HF, rfl, S26, Hle.refl _, ob29⟩
 exact ⟨h19, 0, r15, HF, rfl, S22, Hle.refl _, ob21⟩
theorem all_ref02_Size_Named : ∀ k j, j ≤ k → Z8u (Z1f j).ref02_Size_Named := by
  intro k
  induction k with
  | zero =>
    intro j hj
    obtain rfl : j = 0 := by omega
    exact (fun _ _ _ _ _ _ => by intro h; cases h)
  | succ k ih =>
    intro j hj
    by_cases h : j ≤ k
    · exact ih j h
    · obtain rfl : j = k + 1 := by omega
      exact s_ref02_Size_Named k ih
theorem ok_ref02_Size_Named (k : Nat) : Z8u (Zbr k) := (all_ref02_Size_Named k k (Nat.le_refl _))
def Z82 (φ : Int → Int → Bool → Ar → Bool → Int → Option (Int × Int × Bool)) : Prop := ∀ ⦃x3 : Int⦄ ⦃x4 : Int⦄ ⦃x5 : Bool⦄ ⦃x7 : Ar⦄ ⦃x10 : Bool⦄ ⦃x11 : Int⦄ ⦃r : Int × Int × Bool⦄, φ x3 x4 x5 x7 x10 x11 = some r → ∀ ⦃w0 : World⦄ ⦃h0 : Hp⦄ ⦃b1 : Nat⦄ ⦃T2 : Nat⦄ ⦃cs8 : List Value⦄, Sub h0 w0 → Rp.R h0 x7 cs8 → OB w0 h0 b1 T2 [.int .i64 x3, .int .i64 x4, .bool x5] →
  Calls Tryz.prog 137 #[.pointer (some ⟨b1, 0, none⟩), .agg cs8.toArray, .bool x10, .int .i64 x11] w0 fun e w1 => ∃ v, e = .returned v ∧ ∃ h1, Stp [b1] w0 h0 w1 h1 ∧ v = .tuple #[] ∧ (OB w1 h1 b1 T2 [.int .i64 r.1, .int .i64 r.2.1, .bool r.2.2])
def Z7j (φ : Int → Int → Bool → St → Int → Option (Int × Int × Bool)) : Prop := ∀ ⦃x3 : Int⦄ ⦃x4 : Int⦄ ⦃x5 : Bool⦄ ⦃x7 : St⦄ ⦃x10 : Int⦄ ⦃r : Int × Int × Bool⦄, φ x3 x4 x5 x7 x10 = some r → ∀ ⦃w0 : World⦄ ⦃h0 : Hp⦄ ⦃b1 : Nat⦄ ⦃T2 : Nat⦄ ⦃cs8 : List Value⦄, Sub h0 w0 → Rp.R h0 x7 cs8 → OB w0 h0 b1 T2 [.int .i64 x3, .int .i64 x4, .bool x5] →
  Calls Tryz.prog 76 #[.pointer (some ⟨b1, 0, none⟩), .agg cs8.toArray, .int .i64 x10] w0 fun e w1 => ∃ v, e = .returned v ∧ ∃ h1, Stp [b1] w0 h0 w1 h1 ∧ v = .tuple #[] ∧ (OB w1 h1 b1 T2 [.int .i64 r.1, .int .i64 r.2.1, .bool r.2.2])
def Z5f (φ : Int → Int → Bool → (List St) → Int → Option (Int × Int × Bool)) : Prop := ∀ ⦃x3 : Int⦄ ⦃x4 : Int⦄ ⦃x5 : Bool⦄ ⦃xs7 : List St⦄ ⦃x10 : Int⦄ ⦃r : Int × Int × Bool⦄, φ x3 x4 x5 xs7 x10 = some r → ∀ ⦃w0 : World⦄ ⦃h0 : Hp⦄ ⦃b1 : Nat⦄ ⦃T2 : Nat⦄ ⦃v8 : Value⦄, Sub h0 w0 → RS h0 v8 xs7 → OB w0 h0 b1 T2 [.int .i64 x3, .int .i64 x4, .bool x5] →
  Calls Tryz.prog 44 #[.pointer (some ⟨b1, 0, none⟩), v8, .int .i64 x10] w0 fun e w1 => ∃ v, e = .returned v ∧ ∃ h1, Stp [b1] w0 h0 w1 h1 ∧ v = .tuple #[] ∧ (OB w1 h1 b1 T2 [.int .i64 r.1, .int .i64 r.2.1, .bool r.2.2])
theorem s_ref02_Size_arm (k : Nat) (IH : ∀ j, j ≤ k → Z82 (Zk j).ref02_Size_arm ∧ Z7j (Zk j).ref02_Size_stmt ∧ Z5f (Zk j).ref02_Size_Stmts) : Z82 (Zau k (Zk k)) := by
 intro x3 x4 x5 x7 x10 x11 r HF w0 h0 b1 T2 cs8 hs0 r9 ob6
 have S0 : Stp [b1] w0 h0 w0 h0 := Stp.refl hs0 _
 have lt12 : b1 < w0.heap.size := OB.lt ob6
 refine Z4o (n := 77) Tryz.func137 rfl Tryz.ntmps137 rfl [(0, pt b1 0), (1, .agg cs8.toArray), (2, .bool x10), (3, vi x11)] rfl <| Zc <| Z0 ?_
 obtain ⟨v13, v15, v17, rfl, rs14, rs16, rs18⟩ := rp_Ar.1 r9
 refine WL.box (cs := [v13, v15, v17]) rfl rfl rfl rfl S0.sub (fun w19 b20 hb21 s22 ob23 => ?_)
 have ne24 : b1 ≠ b20 := ob6.ne_new hb21
 have g25 : w0.heap.size ≤ b20 := by rw [hb21]; exact S0.size
 have S26 := S0.trans0 s22
 refine Z6 <| Z4 <| Zc <| Z0 <| Wm rfl rfl <| Wm rfl rfl ?_
 have ob27 := (ob6.step0 s22)
 obtain ⟨r28, hr29, HF⟩ := Z5 HF
 refine Wc rfl (Zd (vs := [pt b1 0, vi x11]) rfl t_ent_82) (Zbg _ hr29 S26.sub ob27) ?_
 rintro v30 w31 ⟨h32, s33, rfl, ob34⟩
 have S35 := S26.trans s33 (Zl (.inl (by simp)) Zt)
 refine Z6 <| Z4 <| Z09 (fun E w143 => ∃ (h142 : Hp) (x146 : Bool), Z2c k (Zk k) x7 x11 r28 x146 = some r ∧ E = [(0, pt b1 0), (3, vi x11), (5, pt b20 0)] ∧ Stp [b1] w0 h0 w143 h142 ∧ Hle h32 h142 ∧ OB w143 h142 b1 T2 [vi r28.1, vi r28.2.1, .bool x146] ∧ OB w143 h142 b20 77 [v13, v15, v17]) ?_ ?_
 ·rintro E w143 ⟨h142, x146, HF, rfl, S145, le144, ob147, ob148⟩
  refine Zc <| Zc <| Z0 <| Wa rfl rfl <| Z6 <| Z4 <| Z0r <| Z5v <| Z99 [0, 3, 5, 8] [(0, pt b1 0), (3, vi x11), (5, pt b20 0), (8, vi 0)] rfl <| Z5u (K := k) (fun j E w150 => ∃ (h149 : Hp) (x153 : Int) (x154 : Bool), (Zk j).ref02_Size_arm_l2 x7 x11 r28 x153 x154 = some r ∧ E = [(0, pt b1 0), (3, vi x11), (5, pt b20 0), (8, vi x153)] ∧ Stp [b1] w0 h0 w150 h149 ∧ Hle h142 h149 ∧ OB w150 h149 b1 T2 [vi r28.1, vi r28.2.1, .bool x154] ∧ OB w150 h149 b20 77 [v13, v15, v17]) ?_ ?_ (j := k) (Nat.le_refl _) ?_
  ·rintro E w150 ⟨_, _, _, HF, _⟩; cases HF
  ·rintro j157 hj159 IHL158 E w150 ⟨h149, x153, x154, HF, rfl, S152, le151, ob155, ob156⟩
   refine Z09 (fun E w191 => ∃ (h190 : Hp), Zcl j157 (Zk j157) x7 x11 r28 x153 x154 = some r ∧ E = [(0, pt b1 0), (3, vi x11), (5, pt b20 0), (8, vi x153)] ∧ Stp [b1] w0 h0 w191 h190 ∧ Hle h149 h190 ∧ OB w191 h190 b1 T2 [vi r28.1, vi r28.2.1, .bool x154] ∧ OB w191 h190 b20 77 [v13, v15, v17]) ?_ ?_
   ·rintro E w191 ⟨h190, HF, rfl, S193, le192, ob194, ob195⟩
    refine Zc <| Z0r <| Z0 <| Wm rfl rfl <| Wv rfl (Z1 rfl Z40) <| Wv rfl (Zb rfl Zcn (OB.cell ob195 (j := 1) rfl)) <| Wm rfl rfl ?_
    obtain ⟨A196, c197, rfl, rs198⟩ := RS.form (rs16.mono ((s22.le).trans ((s33.le).trans ((le144).trans ((le151).trans le192)))))
    obtain ⟨e199, he200, HF⟩ := Z5 HF
    obtain ⟨b201, o202, rfl, h204, h205, ra203⟩ := RS.atO rs198 he200
    obtain ⟨cs206, r207, hc208⟩ := ra203
    obtain rfl := (show cs206 = _ from r207)
    refine Wv rfl (Z1p rfl rfl Z5o Z1s h204 h205) <| Wv rfl (Zb rfl Z04 (S193.sub.at_ _ _ _ (hc208 0 _ rfl))) ?_
    obtain ⟨r209, hr210, HF⟩ := Z5 HF
    refine Wc rfl (Zd (vs := [vi e199]) rfl t_ent_136) (ok_ref02_label _ hr210 S193.sub) ?_
    rintro _ w212 ⟨h213, s214, rfl⟩
    have S215 := S193.trans0 s214
    have ob216 := (ob194.step0 s214)
    obtain ⟨r217, hr218, HF⟩ := Z5 HF
    refine Wc rfl (Zd (vs := [pt b1 0, .bool r209]) rfl Z0s) (Zf _ hr218 S215.sub ob216) ?_
    rintro v219 w220 ⟨h221, s222, rfl, ob223⟩
    have S224 := S215.trans s222 (Zl (.inl (by simp)) Zt)
    refine Z6 <| Zy <| Z4 <| Z0 <| Wm rfl rfl <| Wv rfl (Z3e rfl rfl) <| Wa rfl rfl <| Z6 ?_
    have ob226 := ((ob195.step0 s214).step1 s222 (Ne.symm ne24))
    refine Z2p <| Z99 [0, 3, 5, 8] [(0, pt b1 0), (3, vi x11), (5, pt b20 0), (8, vi (IntKind.i64.wrap (x153 + 1)))] rfl ?_
    exact IHL158 j157 (Nat.le_refl _) _ _ ⟨h221, IntKind.i64.wrap (x153 + 1), r217, HF, rfl, S224, (le151).trans ((le192).trans ((s214.le).trans s222.le)), ob223, ob226⟩
   intro J225
   refine Z09 (fun E w165 => ∃ (h164 : Hp) (x168 : Bool), Z61 j157 (Zk j157) x7 x11 r28 x153 x154 x168 = some r ∧ E = [(0, pt b1 0), (3, vi x11), (5, pt b20 0), (8, vi x153), (54, .bool x168)] ∧ Stp [b1] w0 h0 w165 h164 ∧ Hle h149 h164 ∧ OB w165 h164 b1 T2 [vi r28.1, vi r28.2.1, .bool x154] ∧ OB w165 h164 b20 77 [v13, v15, v17]) ?_ ?_
   ·rintro E w165 ⟨h164, x168, HF, rfl, S167, le166, ob169, ob170⟩
    refine Z15 HF rfl (fun HF => ?_) (fun HF => ?_)
    ·refine Zq <| Z01 [0, 3, 5, 8] _ rfl ?_
     exact J225 ⟨h164, HF, rfl, S167, le166, ob169, ob170⟩
    refine Z66 <| Z05 <| Z05 <| Z1m <| Z4 <| Zc <| Z0 <| Wm rfl rfl <| Wv rfl (Z1 rfl Z6d) <| Wv rfl (Zb rfl Z31 (OB.cell ob170 (j := 0) rfl)) <| Wm rfl rfl <| Wv rfl (Z3e rfl rfl) ?_
    obtain ⟨r172, hr173, HF⟩ := Z5 HF
    refine Wc rfl (Zd (vs := [pt b1 0, v13, vi (IntKind.i64.wrap (x11 + 1))]) rfl t_ent_85) (Zah _ hr173 S167.sub (rs14.mono ((s22.le).trans ((s33.le).trans ((le144).trans ((le151).trans le166))))) ob169) ?_
    rintro v174 w175 ⟨h176, s177, rfl, ob178⟩
    have S179 := S167.trans s177 (Zl (.inl (by simp)) Zt)
    refine Z6 <| Z4 <| Z0 <| Wm rfl rfl <| Wv rfl (Z1 rfl Ze3) ?_
    have ob180 := (ob170.step1 s177 (Ne.symm ne24))
    refine Wv rfl (Zb rfl Z5q (OB.cell ob180 (j := 2) rfl)) <| Wm rfl rfl <| Wv rfl (Z3e rfl rfl) ?_
    obtain ⟨r181, hr182, HF⟩ := Z5 HF
    refine Wc rfl (Zd (vs := [pt b1 0, v17, vi (IntKind.i64.wrap (x11 + 1))]) rfl t_ent_44) ((IH _ (Nat.le_trans (Nat.le_of_succ_le hj159) (Nat.le_refl _))).2.2 hr182 S179.sub (rs18.mono ((s22.le).trans ((s33.le).trans ((le144).trans ((le151).trans ((le166).trans s177.le)))))) ob178) ?_
    rintro v183 w184 ⟨h185, s186, rfl, ob187⟩
    have S188 := S179.trans s186 (Zl (.inl (by simp)) Zt)
    refine Z6 <| Z6j rfl ?_
    obtain rfl := Option.some.inj HF
    exact ⟨_, rfl, h185, S188, rfl, ob187⟩
   intro J189
   refine Z0 <| Wm rfl rfl <| Wv rfl (Z1 rfl Z40) <| Wv rfl (Zb rfl Zcn (OB.cell ob156 (j := 1) rfl)) ?_
   obtain ⟨A160, c161, rfl, rs162⟩ := RS.form (rs16.mono ((s22.le).trans ((s33.le).trans ((le144).trans le151))))
   refine Wv rfl (Z1i rfl Z5o) <| Wv rfl (Zdk rfl rfl) <| Wm rfl rfl <| Z27 48 HF rfl (fun HF => ?_) (fun HF => ?_)
   ·refine Wm rfl rfl <| Wv rfl (Zp rfl) <| Wv rfl (Z1 rfl Z6f) <| Wv rfl (Zb rfl Z76 (OB.cell ob155 (j := 2) rfl)) <| Wv rfl (Z30 rfl) <| Wv rfl (Zj rfl rfl) <| Z6 <| Z01 [0, 3, 5, 8, 54] _ rfl ?_
    exact J189 ⟨h149, !x154, HF, rfl, S152, Hle.refl _, ob155, ob156⟩
   refine Wp rfl <| Wp rfl <| Wp rfl <| Wp rfl <| Wp rfl <| Wv rfl (Zi rfl rfl) <| Z6 <| Z01 [0, 3, 5, 8, 54] _ rfl ?_
   exact J189 ⟨h149, false, HF, rfl, S152, Hle.refl _, ob155, ob156⟩
  exact ⟨h142, 0, x146, HF, rfl, S145, Hle.refl _, ob147, ob148⟩
 intro J227
 refine Z0 <| Wm rfl rfl <| Wm rfl rfl <| Wm rfl rfl <| Z27 14 HF rfl (fun HF => ?_) (fun HF => ?_)
 ·refine Wv rfl (Z1 rfl Z6d) ?_
  have ob37 := (ob23.step1 s33 (Ne.symm ne24))
  refine Wv rfl (Zb rfl Z31 (OB.cell ob37 (j := 0) rfl)) ?_
  obtain ⟨A38, c39, rfl, rs40⟩ := RS.form (rs14.mono ((s22.le).trans s33.le))
  refine Wv rfl (Z1i rfl Z0v) <| Wv rfl (Z1g rfl rfl) <| Wv rfl (Zj rfl rfl) <| Wm rfl rfl <| Z27 20 HF rfl (fun HF => ?_) (fun HF => ?_)
  ·refine Wv rfl (Z1 rfl Z40) <| Wv rfl (Zb rfl Zcn (OB.cell ob37 (j := 1) rfl)) ?_
   obtain ⟨A42, c43, rfl, rs44⟩ := RS.form (rs16.mono ((s22.le).trans s33.le))
   refine Wv rfl (Z1i rfl Z5o) <| Wv rfl (Z1g rfl rfl) <| Wv rfl (Zj rfl rfl) <| Wm rfl rfl <| Z27 26 HF rfl (fun HF => ?_) (fun HF => ?_)
   ·refine Wp rfl <| Wp rfl <| Wp rfl <| Wp rfl <| Wp rfl <| Wp rfl <| Wp rfl <| Wp rfl <| Wp rfl <| Wp rfl <| Wp rfl <| Wp rfl <| Wp rfl <| Wp rfl <| Wv rfl (Zj rfl rfl) ?_
    obtain ⟨r46, hr47, HF⟩ := Z5 HF
    refine Wc rfl (Zd (vs := [pt b1 0, .bool true]) rfl Z0s) (Zf _ hr47 S35.sub ob34) ?_
    rintro v48 w49 ⟨h50, s51, rfl, ob52⟩
    have S53 := S35.trans s51 (Zl (.inl (by simp)) Zt)
    refine Z6 ?_
    have ob228 := (ob37.step1 s51 (Ne.symm ne24))
    refine Z01 [0, 3, 5] _ rfl ?_
    exact J227 ⟨h50, r46, HF, rfl, S53, s51.le, ob52, ob228⟩
   refine Wm rfl rfl <| Wv rfl (Z30 rfl) <| Wm rfl rfl <| Z27 29 HF rfl (fun HF => ?_) (fun HF => ?_)
   ·refine Wv rfl (Z1 rfl Z6d) <| Wv rfl (Zb rfl Z31 (OB.cell ob37 (j := 0) rfl)) <| Wv rfl (Z1i rfl Z0v) <| Wv rfl (Z1g rfl rfl) <| Wv rfl (Zj rfl rfl) <| Wm rfl rfl <| Z27 35 HF rfl (fun HF => ?_) (fun HF => ?_)
    ·refine Wv rfl (Z1 rfl Z40) <| Wv rfl (Zb rfl Zcn (OB.cell ob37 (j := 1) rfl)) <| Wv rfl (Z1i rfl Z5o) <| Wv rfl (Zby rfl rfl) <| Wv rfl (Zj rfl rfl) <| Wv rfl (Zi rfl rfl) ?_
     obtain ⟨r56, hr57, HF⟩ := Z5 HF
     refine Wc rfl (Zd (vs := [pt b1 0, .bool (decide ((0 : Int) < (x7.labels.length : Int)))]) rfl Z0s) (Zf _ hr57 S35.sub ob34) ?_
     rintro v58 w59 ⟨h60, s61, rfl, ob62⟩
     have S63 := S35.trans s61 (Zl (.inl (by simp)) Zt)
     refine Z6 ?_
     have ob229 := (ob37.step1 s61 (Ne.symm ne24))
     refine Z01 [0, 3, 5] _ rfl ?_
     exact J227 ⟨h60, r56, HF, rfl, S63, s61.le, ob62, ob229⟩
    refine Wp rfl <| Wp rfl <| Wp rfl <| Wp rfl <| Wv rfl (Zi rfl rfl) <| Wv rfl (Zi rfl rfl) ?_
    obtain ⟨r64, hr65, HF⟩ := Z5 HF
    refine Wc rfl (Zd (vs := [pt b1 0, .bool false]) rfl Z0s) (Zf _ hr65 S35.sub ob34) ?_
    rintro v66 w67 ⟨h68, s69, rfl, ob70⟩
    have S71 := S35.trans s69 (Zl (.inl (by simp)) Zt)
    refine Z6 ?_
    have ob230 := (ob37.step1 s69 (Ne.symm ne24))
    refine Z01 [0, 3, 5] _ rfl ?_
    exact J227 ⟨h68, r64, HF, rfl, S71, s69.le, ob70, ob230⟩
   refine Wp rfl <| Wp rfl <| Wp rfl <| Wp rfl <| Wv rfl (Zi rfl rfl) <| Wm rfl rfl <| Wp rfl <| Wp rfl <| Wp rfl <| Wp rfl <| Wv rfl (Zi rfl rfl) <| Wv rfl (Zi rfl rfl) ?_
   obtain ⟨r72, hr73, HF⟩ := Z5 HF
   refine Wc rfl (Zd (vs := [pt b1 0, .bool false]) rfl Z0s) (Zf _ hr73 S35.sub ob34) ?_
   rintro v74 w75 ⟨h76, s77, rfl, ob78⟩
   have S79 := S35.trans s77 (Zl (.inl (by simp)) Zt)
   refine Z6 ?_
   have ob231 := (ob37.step1 s77 (Ne.symm ne24))
   refine Z01 [0, 3, 5] _ rfl ?_
   exact J227 ⟨h76, r72, HF, rfl, S79, s77.le, ob78, ob231⟩
  refine Wp rfl <| Wp rfl <| Wp rfl <| Wp rfl <| Wv rfl (Zi rfl rfl) <| Wm rfl rfl <| Wm rfl rfl <| Wv rfl (Z30 rfl) <| Wm rfl rfl <| Z27 29 HF rfl (fun HF => ?_) (fun HF => ?_)
  ·refine Wv rfl (Z1 rfl Z6d) <| Wv rfl (Zb rfl Z31 (OB.cell ob37 (j := 0) rfl)) <| Wv rfl (Z1i rfl Z0v) <| Wv rfl (Z1g rfl rfl) <| Wv rfl (Zj rfl rfl) <| Wm rfl rfl <| Z27 35 HF rfl (fun HF => ?_) (fun HF => ?_)
   ·refine Wv rfl (Z1 rfl Z40) <| Wv rfl (Zb rfl Zcn (OB.cell ob37 (j := 1) rfl)) ?_
    obtain ⟨A82, c83, rfl, rs84⟩ := RS.form (rs16.mono ((s22.le).trans s33.le))
    refine Wv rfl (Z1i rfl Z5o) <| Wv rfl (Zby rfl rfl) <| Wv rfl (Zj rfl rfl) <| Wv rfl (Zi rfl rfl) ?_
    obtain ⟨r85, hr86, HF⟩ := Z5 HF
    refine Wc rfl (Zd (vs := [pt b1 0, .bool (decide ((0 : Int) < (x7.labels.length : Int)))]) rfl Z0s) (Zf _ hr86 S35.sub ob34) ?_
    rintro v87 w88 ⟨h89, s90, rfl, ob91⟩
    have S92 := S35.trans s90 (Zl (.inl (by simp)) Zt)
    refine Z6 ?_
    have ob232 := (ob37.step1 s90 (Ne.symm ne24))
    refine Z01 [0, 3, 5] _ rfl ?_
    exact J227 ⟨h89, r85, HF, rfl, S92, s90.le, ob91, ob232⟩
   refine Wp rfl <| Wp rfl <| Wp rfl <| Wp rfl <| Wv rfl (Zi rfl rfl) <| Wv rfl (Zi rfl rfl) ?_
   obtain ⟨r93, hr94, HF⟩ := Z5 HF
   refine Wc rfl (Zd (vs := [pt b1 0, .bool false]) rfl Z0s) (Zf _ hr94 S35.sub ob34) ?_
   rintro v95 w96 ⟨h97, s98, rfl, ob99⟩
   have S100 := S35.trans s98 (Zl (.inl (by simp)) Zt)
   refine Z6 ?_
   have ob233 := (ob37.step1 s98 (Ne.symm ne24))
   refine Z01 [0, 3, 5] _ rfl ?_
   exact J227 ⟨h97, r93, HF, rfl, S100, s98.le, ob99, ob233⟩
  refine Wp rfl <| Wp rfl <| Wp rfl <| Wp rfl <| Wv rfl (Zi rfl rfl) <| Wm rfl rfl <| Wp rfl <| Wp rfl <| Wp rfl <| Wp rfl <| Wv rfl (Zi rfl rfl) <| Wv rfl (Zi rfl rfl) ?_
  obtain ⟨r101, hr102, HF⟩ := Z5 HF
  refine Wc rfl (Zd (vs := [pt b1 0, .bool false]) rfl Z0s) (Zf _ hr102 S35.sub ob34) ?_
  rintro v103 w104 ⟨h105, s106, rfl, ob107⟩
  have S108 := S35.trans s106 (Zl (.inl (by simp)) Zt)
  refine Z6 ?_
  have ob234 := (ob37.step1 s106 (Ne.symm ne24))
  refine Z01 [0, 3, 5] _ rfl ?_
  exact J227 ⟨h105, r101, HF, rfl, S108, s106.le, ob107, ob234⟩
 refine Wp rfl <| Wp rfl <| Wp rfl <| Wp rfl <| Wv rfl (Zi rfl rfl) <| Wm rfl rfl <| Wp rfl <| Wp rfl <| Wp rfl <| Wp rfl <| Wv rfl (Zi rfl rfl) <| Wm rfl rfl <| Wm rfl rfl <| Wv rfl (Z30 rfl) <| Wm rfl rfl <| Z27 29 HF rfl (fun HF => ?_) (fun HF => ?_)
 ·refine Wv rfl (Z1 rfl Z6d) ?_
  have ob110 := (ob23.step1 s33 (Ne.symm ne24))
  refine Wv rfl (Zb rfl Z31 (OB.cell ob110 (j := 0) rfl)) ?_
  obtain ⟨A111, c112, rfl, rs113⟩ := RS.form (rs14.mono ((s22.le).trans s33.le))
  refine Wv rfl (Z1i rfl Z0v) <| Wv rfl (Z1g rfl rfl) <| Wv rfl (Zj rfl rfl) <| Wm rfl rfl <| Z27 35 HF rfl (fun HF => ?_) (fun HF => ?_)
  ·refine Wv rfl (Z1 rfl Z40) <| Wv rfl (Zb rfl Zcn (OB.cell ob110 (j := 1) rfl)) ?_
   obtain ⟨A115, c116, rfl, rs117⟩ := RS.form (rs16.mono ((s22.le).trans s33.le))
   refine Wv rfl (Z1i rfl Z5o) <| Wv rfl (Zby rfl rfl) <| Wv rfl (Zj rfl rfl) <| Wv rfl (Zi rfl rfl) ?_
   obtain ⟨r118, hr119, HF⟩ := Z5 HF
   refine Wc rfl (Zd (vs := [pt b1 0, .bool (decide ((0 : Int) < (x7.labels.length : Int)))]) rfl Z0s) (Zf _ hr119 S35.sub ob34) ?_
   rintro v120 w121 ⟨h122, s123, rfl, ob124⟩
   have S125 := S35.trans s123 (Zl (.inl (by simp)) Zt)
   refine Z6 ?_
   have ob235 := (ob110.step1 s123 (Ne.symm ne24))
   refine Z01 [0, 3, 5] _ rfl ?_
   exact J227 ⟨h122, r118, HF, rfl, S125, s123.le, ob124, ob235⟩
  refine Wp rfl <| Wp rfl <| Wp rfl <| Wp rfl <| Wv rfl (Zi rfl rfl) <| Wv rfl (Zi rfl rfl) ?_
  obtain ⟨r126, hr127, HF⟩ := Z5 HF
  refine Wc rfl (Zd (vs := [pt b1 0, .bool false]) rfl Z0s) (Zf _ hr127 S35.sub ob34) ?_
  rintro v128 w129 ⟨h130, s131, rfl, ob132⟩
  have S133 := S35.trans s131 (Zl (.inl (by simp)) Zt)
  refine Z6 ?_
  have ob236 := (ob110.step1 s131 (Ne.symm ne24))
  refine Z01 [0, 3, 5] _ rfl ?_
  exact J227 ⟨h130, r126, HF, rfl, S133, s131.le, ob132, ob236⟩
 refine Wp rfl <| Wp rfl <| Wp rfl <| Wp rfl <| Wv rfl (Zi rfl rfl) <| Wm rfl rfl <| Wp rfl <| Wp rfl <| Wp rfl <| Wp rfl <| Wv rfl (Zi rfl rfl) <| Wv rfl (Zi rfl rfl) ?_
 obtain ⟨r134, hr135, HF⟩ := Z5 HF
 refine Wc rfl (Zd (vs := [pt b1 0, .bool false]) rfl Z0s) (Zf _ hr135 S35.sub ob34) ?_
 rintro v136 w137 ⟨h138, s139, rfl, ob140⟩
 have S141 := S35.trans s139 (Zl (.inl (by simp)) Zt)
 refine Z6 ?_
 have ob237 := ((ob23.step1 s33 (Ne.symm ne24)).step1 s139 (Ne.symm ne24))
 refine Z01 [0, 3, 5] _ rfl ?_
 exact J227 ⟨h138, r134, HF, rfl, S141, s139.le, ob140, ob237⟩
theorem s_ref02_Size_stmt (k : Nat) (IH : ∀ j, j ≤ k → Z82 (Zk j).ref02_Size_arm ∧ Z7j (Zk j).ref02_Size_stmt ∧ Z5f (Zk j).ref02_Size_Stmts) : Z7j (Z9j k (Zk k)) := by
 intro x3 x4 x5 x7 x10 r HF w0 h0 b1 T2 cs8 hs0 r9 ob6
 have S0 : Stp [b1] w0 h0 w0 h0 := Stp.refl hs0 _
 have lt11 : b1 < w0.heap.size := OB.lt ob6
 refine Z4o (n := 210) Tryz.func76 rfl Tryz.ntmps76 rfl [(0, pt b1 0), (1, .agg cs8.toArray), (2, vi x10)] rfl <| Zc <| Z0 ?_
 obtain ⟨v12, v14, v16, v18, v20, v22, rfl, rs13, rs15, rs17, rs19, rs21, rs23⟩ := rp_St.1 r9
 refine WL.box (cs := [vi x7.op, .string x7.name, v12, v14, v16, vi x7.n, v18, v20, v22, .bool x7.els]) rfl rfl rfl rfl S0.sub (fun w24 b25 hb26 s27 ob28 => ?_)
 have ne29 : b1 ≠ b25 := ob6.ne_new hb26
 have g30 : w0.heap.size ≤ b25 := by rw [hb26]; exact S0.size
 have S31 := S0.trans0 s27
 refine Z6 <| Z4 <| Z09 (fun E w35 => ∃ (h34 : Hp), Zbl k (Zk k) x3 x4 x5 x7 x10 = some r ∧ E = [(0, pt b1 0), (2, vi x10), (4, pt b25 0)] ∧ Stp [b1] w0 h0 w35 h34 ∧ Hle h0 h34 ∧ OB w35 h34 b1 T2 [vi x3, vi x4, .bool x5] ∧ OB w35 h34 b25 56 [vi x7.op, .string x7.name, v12, v14, v16, vi x7.n, v18, v20, v22, .bool x7.els]) ?_ ?_
 ·rintro E w35 ⟨h34, HF, rfl, S37, le36, ob38, ob39⟩
  refine Zc <| Z0 <| Wm rfl rfl <| Wm rfl rfl ?_
  obtain ⟨r40, hr41, HF⟩ := Z5 HF
  refine Wc rfl (Zd (vs := [pt b1 0, vi x10]) rfl t_ent_82) (Zbg _ hr41 S37.sub ob38) ?_
  rintro v42 w43 ⟨h44, s45, rfl, ob46⟩
  have S47 := S37.trans s45 (Zl (.inl (by simp)) Zt)
  refine Z6 <| Z4 <| Zc <| Z0 <| Wa rfl rfl <| Wa rfl rfl <| Wa rfl rfl <| Z6 <| Z4 <| Z09 (fun E w126 => ∃ (h125 : Hp) (x129 : Int) (x130 : Bool) (x131 : Bool) (x132 : Bool), Z1y k (Zk k) x7 x10 r40 x129 x130 x131 x132 = some r ∧ E = [(0, pt b1 0), (2, vi x10), (4, pt b25 0), (6, vi x129), (7, .bool x130), (8, .bool x131)] ∧ Stp [b1] w0 h0 w126 h125 ∧ Hle h44 h125 ∧ OB w126 h125 b1 T2 [vi r40.1, vi r40.2.1, .bool x132] ∧ OB w126 h125 b25 56 [vi x7.op, .string x7.name, v12, v14, v16, vi x7.n, v18, v20, v22, .bool x7.els]) ?_ ?_
  ·rintro E w126 ⟨h125, x129, x130, x131, x132, HF, rfl, S128, le127, ob133, ob134⟩
   refine Z09 (fun E w203 => ∃ (h202 : Hp) (x206 : Bool), Z2d k (Zk k) x7 x10 r40 x131 x206 = some r ∧ E = [(0, pt b1 0), (2, vi x10), (4, pt b25 0), (8, .bool x131)] ∧ Stp [b1] w0 h0 w203 h202 ∧ Hle h125 h202 ∧ OB w203 h202 b1 T2 [vi r40.1, vi r40.2.1, .bool x206] ∧ OB w203 h202 b25 56 [vi x7.op, .string x7.name, v12, v14, v16, vi x7.n, v18, v20, v22, .bool x7.els]) ?_ ?_
   ·rintro E w203 ⟨h202, x206, HF, rfl, S205, le204, ob207, ob208⟩
    refine Z09 (fun E w317 => ∃ (h316 : Hp) (x320 : Bool), Z17 k (Zk k) x7 x10 r40 x131 x320 = some r ∧ E = [(0, pt b1 0), (2, vi x10), (4, pt b25 0), (8, .bool x131)] ∧ Stp [b1] w0 h0 w317 h316 ∧ Hle h202 h316 ∧ OB w317 h316 b1 T2 [vi r40.1, vi r40.2.1, .bool x320] ∧ OB w317 h316 b25 56 [vi x7.op, .string x7.name, v12, v14, v16, vi x7.n, v18, v20, v22, .bool x7.els]) ?_ ?_
    ·rintro E w317 ⟨h316, x320, HF, rfl, S319, le318, ob321, ob322⟩
     refine Z09 (fun E w503 => ∃ (h502 : Hp) (x506 : Bool), Z0j k (Zk k) x7 x10 r40 x506 = some r ∧ E = [(0, pt b1 0), (2, vi x10), (4, pt b25 0)] ∧ Stp [b1] w0 h0 w503 h502 ∧ Hle h316 h502 ∧ OB w503 h502 b1 T2 [vi r40.1, vi r40.2.1, .bool x506] ∧ OB w503 h502 b25 56 [vi x7.op, .string x7.name, v12, v14, v16, vi x7.n, v18, v20, v22, .bool x7.els]) ?_ ?_
     ·rintro E w503 ⟨h502, x506, HF, rfl, S505, le504, ob507, ob508⟩
      refine Zc <| Z0 <| Wm rfl rfl <| Wv rfl (Z1 rfl Z8d) <| Wv rfl (Zb rfl Z31 (OB.cell ob508 (j := 2) rfl)) <| Wm rfl rfl <| Wv rfl (Z3e rfl rfl) ?_
      obtain ⟨r509, hr510, HF⟩ := Z5 HF
      refine Wc rfl (Zd (vs := [pt b1 0, v12, vi (IntKind.i64.wrap (x10 + 1))]) rfl t_ent_85) (Zah _ hr510 S505.sub (rs13.mono ((s27.le).trans ((le36).trans ((s45.le).trans ((le127).trans ((le204).trans ((le318).trans le504))))))) ob507) ?_
      rintro v511 w512 ⟨h513, s514, rfl, ob515⟩
      have S516 := S505.trans s514 (Zl (.inl (by simp)) Zt)
      refine Z6 <| Z4 <| Zc <| Z0 <| Wm rfl rfl <| Wv rfl (Z1 rfl Z3u) ?_
      have ob517 := (ob508.step1 s514 (Ne.symm ne29))
      refine Wv rfl (Zb rfl Z31 (OB.cell ob517 (j := 4) rfl)) <| Wm rfl rfl <| Wv rfl (Z3e rfl rfl) ?_
      obtain ⟨r518, hr519, HF⟩ := Z5 HF
      refine Wc rfl (Zd (vs := [pt b1 0, v16, vi (IntKind.i64.wrap (x10 + 1))]) rfl t_ent_85) (Zah _ hr519 S516.sub (rs17.mono ((s27.le).trans ((le36).trans ((s45.le).trans ((le127).trans ((le204).trans ((le318).trans ((le504).trans s514.le)))))))) ob515) ?_
      rintro v520 w521 ⟨h522, s523, rfl, ob524⟩
      have S525 := S516.trans s523 (Zl (.inl (by simp)) Zt)
      refine Z6 <| Z4 <| Zc <| Z0 <| Wm rfl rfl <| Wv rfl (Z1 rfl Z84) ?_
      have ob526 := (ob517.step1 s523 (Ne.symm ne29))
      refine Wv rfl (Zb rfl Z5q (OB.cell ob526 (j := 6) rfl)) <| Wm rfl rfl <| Wv rfl (Z3e rfl rfl) ?_
      obtain ⟨r527, hr528, HF⟩ := Z5 HF
      refine Wc rfl (Zd (vs := [pt b1 0, v18, vi (IntKind.i64.wrap (x10 + 1))]) rfl t_ent_44) ((IH _ (Nat.le_refl _)).2.2 hr528 S525.sub (rs19.mono ((s27.le).trans ((le36).trans ((s45.le).trans ((le127).trans ((le204).trans ((le318).trans ((le504).trans ((s514.le).trans s523.le))))))))) ob524) ?_
      rintro v529 w530 ⟨h531, s532, rfl, ob533⟩
      have S534 := S525.trans s532 (Zl (.inl (by simp)) Zt)
      refine Z6 <| Z4 <| Zc <| Zc <| Z0 <| Wa rfl rfl <| Z6 <| Z4 <| Z0r <| Z5v <| Z99 [0, 2, 4, 9] [(0, pt b1 0), (2, vi x10), (4, pt b25 0), (9, vi 0)] rfl <| Z5u (K := k) (fun j E w536 => ∃ (h535 : Hp) (x539 : Int) (x540 : Int) (x541 : Int) (x542 : Bool), (Zk j).ref02_Size_stmt_l8 x7 x10 x539 x540 x541 x542 = some r ∧ E = [(0, pt b1 0), (2, vi x10), (4, pt b25 0), (9, vi x539)] ∧ Stp [b1] w0 h0 w536 h535 ∧ Hle h531 h535 ∧ OB w536 h535 b1 T2 [vi x540, vi x541, .bool x542] ∧ OB w536 h535 b25 56 [vi x7.op, .string x7.name, v12, v14, v16, vi x7.n, v18, v20, v22, .bool x7.els]) ?_ ?_ (j := k) (Nat.le_refl _) ?_
      ·rintro E w536 ⟨_, _, _, _, _, HF, _⟩; cases HF
      ·rintro j545 hj547 IHL546 E w536 ⟨h535, x539, x540, x541, x542, HF, rfl, S538, le537, ob543, ob544⟩
       refine Z09 (fun E w570 => ∃ (h569 : Hp), Zao j545 (Zk j545) x7 x10 x539 x540 x541 x542 = some r ∧ E = [(0, pt b1 0), (2, vi x10), (4, pt b25 0), (9, vi x539)] ∧ Stp [b1] w0 h0 w570 h569 ∧ Hle h535 h569 ∧ OB w570 h569 b1 T2 [vi x540, vi x541, .bool x542] ∧ OB w570 h569 b25 56 [vi x7.op, .string x7.name, v12, v14, v16, vi x7.n, v18, v20, v22, .bool x7.els]) ?_ ?_
       ·rintro E w570 ⟨h569, HF, rfl, S572, le571, ob573, ob574⟩
        refine Zc <| Z0r ?_
        obtain ⟨A575, c576, rfl, rs577⟩ := RS.form (rs21.mono ((s27.le).trans ((le36).trans ((s45.le).trans ((le127).trans ((le204).trans ((le318).trans ((le504).trans ((s514.le).trans ((s523.le).trans ((s532.le).trans ((le537).trans le571))))))))))))
        obtain ⟨e578, he579, HF⟩ := Z5 HF
        obtain ⟨b580, o581, rfl, h583, h584, ra582⟩ := RS.atO rs577 he579
        obtain ⟨cs585, r586, hc587⟩ := ra582
        refine Z51 (m := 11) [(0, pt b1 0), (2, vi x10), (4, pt b25 0), (9, vi x539)] [0, 2, 4, 9] rfl (fun i v w h => match i with | 0 => v = pt b1 0 | 1 => v = pt b25 7 | 2 => v = sl b580 o581 (x7.arms).length c576 | 3 => v = vi x539 | 4 => v = pt b580 (o581 + Int.toNat x539 * 3) | 5 => v = .agg cs585.toArray | 6 => v = pt b25 0 | 7 => v = vi x7.op | 8 => v = .bool ((x7.op : Int) == 3) | 9 => v = vi x10 | 10 => v = vi (IntKind.i64.wrap (x10 + 1)) | _ => True) Z6h S572.sub rfl rfl rfl rfl rfl ?_ ?_ ?_
        ·intro i v w h w2 h2 hΦ hst
         match i, hΦ with
         | 0, hΦ | 1, hΦ | 2, hΦ | 3, hΦ | 4, hΦ | 5, hΦ | 6, hΦ | 7, hΦ | 8, hΦ | 9, hΦ | 10, hΦ => exact hΦ
         | i + 11, _ => exact trivial
        ·refine ⟨?_, ?_, ?_, ?_, ?_, ?_, ?_, ?_, ?_, ?_, ?_, trivial⟩
         ·intro a w588 h589 s590 hat hF
          exact Za hat rfl (Z0t rfl) s590.sub (by exact rfl)
         ·intro a w588 h589 s590 hat hF
          exact Za hat rfl (Z1 rfl Z3g) s590.sub (by exact rfl)
         ·intro a w588 h589 s590 hat hF
          have ob591 := (ob574.step0 s590)
          exact Za (Z7 hat (hF 1 193 rfl rfl)) rfl (Zb rfl Zbt (OB.cell ob591 (j := 7) rfl)) s590.sub (by exact rfl)
         ·intro a w588 h589 s590 hat hF
          exact Za hat rfl (Z0t rfl) s590.sub (by exact rfl)
         ·intro a w588 h589 s590 hat hF
          exact Za (Z7 (Z7 hat (hF 2 194 rfl rfl)) (hF 3 195 rfl rfl)) rfl (Z1p rfl rfl Z4u Z6c h583 h584) s590.sub (by exact rfl)
         ·intro a w588 h589 s590 hat hF
          exact Za (Z7 hat (hF 4 196 rfl rfl)) rfl (Z2t (cs := cs585) rfl t_agg_77 (by rw [Rp.len (Rp.mono (s590.le) r586)]; exact Z6c) (fun j v hv => s590.sub.at_ _ _ _ ((fun i v hv => (s590.le).1 _ _ _ (hc587 i v hv)) j v hv))) s590.sub (by exact rfl)
         ·intro a w588 h589 s590 hat hF
          exact Za hat rfl (Z1 rfl Z1x) s590.sub (by exact rfl)
         ·intro a w588 h589 s590 hat hF
          have ob592 := (ob574.step0 s590)
          exact Za (Z7 hat (hF 6 198 rfl rfl)) rfl (Zb rfl Z04 (OB.cell ob592 (j := 0) rfl)) s590.sub (by exact rfl)
         ·intro a w588 h589 s590 hat hF
          exact Za (Z7 hat (hF 7 199 rfl rfl)) rfl (Z1g rfl rfl) s590.sub (by exact rfl)
         ·intro a w588 h589 s590 hat hF
          exact Za hat rfl (Z0t rfl) s590.sub (by exact rfl)
         intro a w588 h589 s590 hat hF
         exact Za (Z7 hat (hF 9 201 rfl rfl)) rfl (Z3e rfl rfl) s590.sub (by exact rfl)
        intro a w588 h589 s590 hat hF
        obtain hv0 := hF 0 192 (by decide) rfl
        obtain hv1 := hF 1 193 (by decide) rfl
        obtain hv2 := hF 2 194 (by decide) rfl
        obtain hv3 := hF 3 195 (by decide) rfl
        obtain hv4 := hF 4 196 (by decide) rfl
        obtain hv5 := hF 5 197 (by decide) rfl
        obtain hv6 := hF 6 198 (by decide) rfl
        obtain hv7 := hF 7 199 (by decide) rfl
        obtain hv8 := hF 8 200 (by decide) rfl
        obtain hv9 := hF 9 201 (by decide) rfl
        obtain hv10 := hF 10 202 (by decide) rfl
        refine Zdh [(202, vi (IntKind.i64.wrap (x10 + 1))), (201, vi x10), (200, .bool ((x7.op : Int) == 3)), (199, vi x7.op), (198, pt b25 0), (197, .agg cs585.toArray), (196, pt b580 (o581 + Int.toNat x539 * 3)), (195, vi x539), (194, sl b580 o581 (x7.arms).length c576), (193, pt b25 7), (192, pt b1 0), (0, pt b1 0), (2, vi x10), (4, pt b25 0), (9, vi x539)] (Z7 (Z7 (Z7 (Z7 (Z7 (Z7 (Z7 (Z7 (Z7 (Z7 (Z7 hat hv0) hv1) hv2) hv3) hv4) hv5) hv6) hv7) hv8) hv9) hv10) ?_
        have S593 := S572.trans0 s590
        have ob594 := (ob573.step0 s590)
        obtain ⟨r595, hr596, HF⟩ := Z5 HF
        refine Wc rfl (Zd (vs := [pt b1 0, .agg cs585.toArray, .bool ((x7.op : Int) == 3), vi (IntKind.i64.wrap (x10 + 1))]) rfl t_ent_137) ((IH _ (Nat.le_trans (Nat.le_of_succ_le hj547) (Nat.le_refl _))).1 hr596 S593.sub (Rp.mono (s590.le) r586) ob594) ?_
        rintro v597 w598 ⟨h599, s600, rfl, ob601⟩
        have S602 := S593.trans s600 (Zl (.inl (by simp)) Zt)
        refine Z6 <| Zy <| Z4 <| Z0 <| Wm rfl rfl <| Wv rfl (Z3e rfl rfl) <| Wa rfl rfl <| Z6 ?_
        have ob604 := ((ob574.step0 s590).step1 s600 (Ne.symm ne29))
        refine Z2p <| Z99 [0, 2, 4, 9] [(0, pt b1 0), (2, vi x10), (4, pt b25 0), (9, vi (IntKind.i64.wrap (x539 + 1)))] rfl ?_
        exact IHL546 j545 (Nat.le_refl _) _ _ ⟨h599, IntKind.i64.wrap (x539 + 1), r595.1, r595.2.1, r595.2.2, HF, rfl, S602, (le537).trans ((le571).trans ((s590.le).trans s600.le)), ob601, ob604⟩
       intro J603
       refine Z09 (fun E w553 => ∃ (h552 : Hp) (x556 : Bool), Z5a j545 (Zk j545) x7 x10 x539 x540 x541 x542 x556 = some r ∧ E = [(0, pt b1 0), (2, vi x10), (4, pt b25 0), (9, vi x539), (189, .bool x556)] ∧ Stp [b1] w0 h0 w553 h552 ∧ Hle h535 h552 ∧ OB w553 h552 b1 T2 [vi x540, vi x541, .bool x542] ∧ OB w553 h552 b25 56 [vi x7.op, .string x7.name, v12, v14, v16, vi x7.n, v18, v20, v22, .bool x7.els]) ?_ ?_
       ·rintro E w553 ⟨h552, x556, HF, rfl, S555, le554, ob557, ob558⟩
        refine Z15 HF rfl (fun HF => ?_) (fun HF => ?_)
        ·refine Zq <| Z01 [0, 2, 4, 9] _ rfl ?_
         exact J603 ⟨h552, HF, rfl, S555, le554, ob557, ob558⟩
        refine Z66 <| Z05 <| Z05 <| Z1m <| Z4 <| Z0 <| Wm rfl rfl <| Wv rfl (Z1 rfl Z3s) <| Wv rfl (Zb rfl Z5q (OB.cell ob558 (j := 8) rfl)) <| Wm rfl rfl <| Wv rfl (Z3e rfl rfl) ?_
        obtain ⟨r560, hr561, HF⟩ := Z5 HF
        refine Wc rfl (Zd (vs := [pt b1 0, v22, vi (IntKind.i64.wrap (x10 + 1))]) rfl t_ent_44) ((IH _ (Nat.le_trans (Nat.le_of_succ_le hj547) (Nat.le_refl _))).2.2 hr561 S555.sub (rs23.mono ((s27.le).trans ((le36).trans ((s45.le).trans ((le127).trans ((le204).trans ((le318).trans ((le504).trans ((s514.le).trans ((s523.le).trans ((s532.le).trans ((le537).trans le554)))))))))))) ob557) ?_
        rintro v562 w563 ⟨h564, s565, rfl, ob566⟩
        have S567 := S555.trans s565 (Zl (.inl (by simp)) Zt)
        refine Z6 <| Z6j rfl ?_
        obtain rfl := Option.some.inj HF
        exact ⟨_, rfl, h564, S567, rfl, ob566⟩
       intro J568
       refine Z0 <| Wm rfl rfl <| Wv rfl (Z1 rfl Z3g) <| Wv rfl (Zb rfl Zbt (OB.cell ob544 (j := 7) rfl)) ?_
       obtain ⟨A548, c549, rfl, rs550⟩ := RS.form (rs21.mono ((s27.le).trans ((le36).trans ((s45.le).trans ((le127).trans ((le204).trans ((le318).trans ((le504).trans ((s514.le).trans ((s523.le).trans ((s532.le).trans le537)))))))))))
       refine Wv rfl (Z1i rfl Z4u) <| Wv rfl (Zdk rfl rfl) <| Wm rfl rfl <| Z27 183 HF rfl (fun HF => ?_) (fun HF => ?_)
       ·refine Wm rfl rfl <| Wv rfl (Zp rfl) <| Wv rfl (Z1 rfl Z6f) <| Wv rfl (Zb rfl Z76 (OB.cell ob543 (j := 2) rfl)) <| Wv rfl (Z30 rfl) <| Wv rfl (Zj rfl rfl) <| Z6 <| Z01 [0, 2, 4, 9, 189] _ rfl ?_
        exact J568 ⟨h535, !x542, HF, rfl, S538, Hle.refl _, ob543, ob544⟩
       refine Wp rfl <| Wp rfl <| Wp rfl <| Wp rfl <| Wp rfl <| Wv rfl (Zi rfl rfl) <| Z6 <| Z01 [0, 2, 4, 9, 189] _ rfl ?_
       exact J568 ⟨h535, false, HF, rfl, S538, Hle.refl _, ob543, ob544⟩
      have ob605 := (ob526.step1 s532 (Ne.symm ne29))
      exact ⟨h531, 0, r527.1, r527.2.1, r527.2.2, HF, rfl, S534, Hle.refl _, ob533, ob605⟩
     intro J606
     refine Z0 <| Wm rfl rfl <| Wm rfl rfl <| Wm rfl rfl <| Z27 122 HF rfl (fun HF => ?_) (fun HF => ?_)
     ·refine Wp rfl <| Wp rfl <| Wp rfl <| Wp rfl <| Wv rfl (Zj rfl rfl) <| Wm rfl rfl <| Wv rfl (Z1 rfl Z1x) <| Wv rfl (Zb rfl Z04 (OB.cell ob322 (j := 0) rfl)) <| Wv rfl (Z1g rfl rfl) <| Wm rfl rfl <| Z27 132 HF rfl (fun HF => ?_) (fun HF => ?_)
      ·refine Wp rfl <| Wp rfl <| Wp rfl <| Wv rfl (Zj rfl rfl) <| Wm rfl rfl <| Wp rfl <| Wp rfl <| Wp rfl <| Wp rfl <| Wp rfl <| Wp rfl <| Wp rfl <| Wp rfl <| Wp rfl <| Wv rfl (Zj rfl rfl) <| Wv rfl (Zj rfl rfl) <| Wm rfl rfl <| Wv rfl (Z1 rfl Z3f) <| Wv rfl (Zb rfl Z76 (OB.cell ob322 (j := 9) rfl)) <| Wm rfl rfl <| Z27 152 HF rfl (fun HF => ?_) (fun HF => ?_)
       ·refine Wp rfl <| Wp rfl <| Wp rfl <| Wp rfl <| Wv rfl (Zj rfl rfl) <| Wv rfl (Zj rfl rfl) ?_
        obtain ⟨r326, hr327, HF⟩ := Z5 HF
        refine Wc rfl (Zd (vs := [pt b1 0, .bool true]) rfl Z0s) (Zf _ hr327 S319.sub ob321) ?_
        rintro v328 w329 ⟨h330, s331, rfl, ob332⟩
        have S333 := S319.trans s331 (Zl (.inl (by simp)) Zt)
        refine Z6 ?_
        have ob607 := (ob322.step1 s331 (Ne.symm ne29))
        refine Z01 [0, 2, 4] _ rfl ?_
        exact J606 ⟨h330, r326, HF, rfl, S333, s331.le, ob332, ob607⟩
       refine Wv rfl (Z1 rfl Z3s) <| Wv rfl (Zb rfl Z5q (OB.cell ob322 (j := 8) rfl)) ?_
       obtain ⟨A334, c335, rfl, rs336⟩ := RS.form (rs23.mono ((s27.le).trans ((le36).trans ((s45.le).trans ((le127).trans ((le204).trans le318))))))
       refine Wv rfl (Z1i rfl Z24) <| Wv rfl (Z1g rfl rfl) <| Wv rfl (Zi rfl rfl) <| Wv rfl (Zj rfl rfl) ?_
       obtain ⟨r337, hr338, HF⟩ := Z5 HF
       refine Wc rfl (Zd (vs := [pt b1 0, .bool (((x7.other.length : Int) : Int) == 0)]) rfl Z0s) (Zf _ hr338 S319.sub ob321) ?_
       rintro v339 w340 ⟨h341, s342, rfl, ob343⟩
       have S344 := S319.trans s342 (Zl (.inl (by simp)) Zt)
       refine Z6 ?_
       have ob608 := (ob322.step1 s342 (Ne.symm ne29))
       refine Z01 [0, 2, 4] _ rfl ?_
       exact J606 ⟨h341, r337, HF, rfl, S344, s342.le, ob343, ob608⟩
      refine Wv rfl (Z1 rfl Z1x) <| Wv rfl (Zb rfl Z04 (OB.cell ob322 (j := 0) rfl)) <| Wv rfl (Z1g rfl rfl) <| Wv rfl (Zi rfl rfl) <| Wm rfl rfl <| Z27 137 HF rfl (fun HF => ?_) (fun HF => ?_)
      ·refine Wp rfl <| Wp rfl <| Wp rfl <| Wp rfl <| Wp rfl <| Wp rfl <| Wp rfl <| Wp rfl <| Wp rfl <| Wv rfl (Zj rfl rfl) <| Wv rfl (Zj rfl rfl) <| Wm rfl rfl <| Wv rfl (Z1 rfl Z3f) <| Wv rfl (Zb rfl Z76 (OB.cell ob322 (j := 9) rfl)) <| Wm rfl rfl <| Z27 152 HF rfl (fun HF => ?_) (fun HF => ?_)
       ·refine Wp rfl <| Wp rfl <| Wp rfl <| Wp rfl <| Wv rfl (Zj rfl rfl) <| Wv rfl (Zj rfl rfl) ?_
        obtain ⟨r347, hr348, HF⟩ := Z5 HF
        refine Wc rfl (Zd (vs := [pt b1 0, .bool true]) rfl Z0s) (Zf _ hr348 S319.sub ob321) ?_
        rintro v349 w350 ⟨h351, s352, rfl, ob353⟩
        have S354 := S319.trans s352 (Zl (.inl (by simp)) Zt)
        refine Z6 ?_
        have ob609 := (ob322.step1 s352 (Ne.symm ne29))
        refine Z01 [0, 2, 4] _ rfl ?_
        exact J606 ⟨h351, r347, HF, rfl, S354, s352.le, ob353, ob609⟩
       refine Wv rfl (Z1 rfl Z3s) <| Wv rfl (Zb rfl Z5q (OB.cell ob322 (j := 8) rfl)) ?_
       obtain ⟨A355, c356, rfl, rs357⟩ := RS.form (rs23.mono ((s27.le).trans ((le36).trans ((s45.le).trans ((le127).trans ((le204).trans le318))))))
       refine Wv rfl (Z1i rfl Z24) <| Wv rfl (Z1g rfl rfl) <| Wv rfl (Zi rfl rfl) <| Wv rfl (Zj rfl rfl) ?_
       obtain ⟨r358, hr359, HF⟩ := Z5 HF
       refine Wc rfl (Zd (vs := [pt b1 0, .bool (((x7.other.length : Int) : Int) == 0)]) rfl Z0s) (Zf _ hr359 S319.sub ob321) ?_
       rintro v360 w361 ⟨h362, s363, rfl, ob364⟩
       have S365 := S319.trans s363 (Zl (.inl (by simp)) Zt)
       refine Z6 ?_
       have ob610 := (ob322.step1 s363 (Ne.symm ne29))
       refine Z01 [0, 2, 4] _ rfl ?_
       exact J606 ⟨h362, r358, HF, rfl, S365, s363.le, ob364, ob610⟩
      refine Wv rfl (Z1 rfl Z3g) <| Wv rfl (Zb rfl Zbt (OB.cell ob322 (j := 7) rfl)) ?_
      obtain ⟨A366, c367, rfl, rs368⟩ := RS.form (rs21.mono ((s27.le).trans ((le36).trans ((s45.le).trans ((le127).trans ((le204).trans le318))))))
      refine Wv rfl (Z1i rfl Z4u) <| Wv rfl (Z1g rfl rfl) <| Wm rfl rfl <| Z27 142 HF rfl (fun HF => ?_) (fun HF => ?_)
      ·refine Wv rfl (Z1 rfl Z3f) <| Wv rfl (Zb rfl Z76 (OB.cell ob322 (j := 9) rfl)) <| Wv rfl (Z30 rfl) <| Wv rfl (Zj rfl rfl) <| Wv rfl (Zi rfl rfl) <| Wv rfl (Zj rfl rfl) <| Wm rfl rfl <| Z27 149 HF rfl (fun HF => ?_) (fun HF => ?_)
       ·refine Wv rfl (Z1 rfl Z3f) <| Wv rfl (Zb rfl Z76 (OB.cell ob322 (j := 9) rfl)) <| Wm rfl rfl <| Z27 152 HF rfl (fun HF => ?_) (fun HF => ?_)
        ·refine Wp rfl <| Wp rfl <| Wp rfl <| Wp rfl <| Wv rfl (Zj rfl rfl) <| Wv rfl (Zj rfl rfl) ?_
         obtain ⟨r372, hr373, HF⟩ := Z5 HF
         refine Wc rfl (Zd (vs := [pt b1 0, .bool true]) rfl Z0s) (Zf _ hr373 S319.sub ob321) ?_
         rintro v374 w375 ⟨h376, s377, rfl, ob378⟩
         have S379 := S319.trans s377 (Zl (.inl (by simp)) Zt)
         refine Z6 ?_
         have ob611 := (ob322.step1 s377 (Ne.symm ne29))
         refine Z01 [0, 2, 4] _ rfl ?_
         exact J606 ⟨h376, r372, HF, rfl, S379, s377.le, ob378, ob611⟩
        refine Wv rfl (Z1 rfl Z3s) <| Wv rfl (Zb rfl Z5q (OB.cell ob322 (j := 8) rfl)) ?_
        obtain ⟨A380, c381, rfl, rs382⟩ := RS.form (rs23.mono ((s27.le).trans ((le36).trans ((s45.le).trans ((le127).trans ((le204).trans le318))))))
        refine Wv rfl (Z1i rfl Z24) <| Wv rfl (Z1g rfl rfl) <| Wv rfl (Zi rfl rfl) <| Wv rfl (Zj rfl rfl) ?_
        obtain ⟨r383, hr384, HF⟩ := Z5 HF
        refine Wc rfl (Zd (vs := [pt b1 0, .bool (((x7.other.length : Int) : Int) == 0)]) rfl Z0s) (Zf _ hr384 S319.sub ob321) ?_
        rintro v385 w386 ⟨h387, s388, rfl, ob389⟩
        have S390 := S319.trans s388 (Zl (.inl (by simp)) Zt)
        refine Z6 ?_
        have ob612 := (ob322.step1 s388 (Ne.symm ne29))
        refine Z01 [0, 2, 4] _ rfl ?_
        exact J606 ⟨h387, r383, HF, rfl, S390, s388.le, ob389, ob612⟩
       refine Wp rfl <| Wp rfl <| Wp rfl <| Wp rfl <| Wp rfl <| Wp rfl <| Wp rfl <| Wp rfl <| Wv rfl (Zi rfl rfl) ?_
       obtain ⟨r391, hr392, HF⟩ := Z5 HF
       refine Wc rfl (Zd (vs := [pt b1 0, .bool false]) rfl Z0s) (Zf _ hr392 S319.sub ob321) ?_
       rintro v393 w394 ⟨h395, s396, rfl, ob397⟩
       have S398 := S319.trans s396 (Zl (.inl (by simp)) Zt)
       refine Z6 ?_
       have ob613 := (ob322.step1 s396 (Ne.symm ne29))
       refine Z01 [0, 2, 4] _ rfl ?_
       exact J606 ⟨h395, r391, HF, rfl, S398, s396.le, ob397, ob613⟩
      refine Wp rfl <| Wp rfl <| Wp rfl <| Wv rfl (Zi rfl rfl) <| Wv rfl (Zi rfl rfl) <| Wv rfl (Zj rfl rfl) <| Wm rfl rfl <| Wp rfl <| Wp rfl <| Wp rfl <| Wp rfl <| Wp rfl <| Wp rfl <| Wp rfl <| Wp rfl <| Wv rfl (Zi rfl rfl) ?_
      obtain ⟨r399, hr400, HF⟩ := Z5 HF
      refine Wc rfl (Zd (vs := [pt b1 0, .bool false]) rfl Z0s) (Zf _ hr400 S319.sub ob321) ?_
      rintro v401 w402 ⟨h403, s404, rfl, ob405⟩
      have S406 := S319.trans s404 (Zl (.inl (by simp)) Zt)
      refine Z6 ?_
      have ob614 := (ob322.step1 s404 (Ne.symm ne29))
      refine Z01 [0, 2, 4] _ rfl ?_
      exact J606 ⟨h403, r399, HF, rfl, S406, s404.le, ob405, ob614⟩
     refine Wv rfl (Z1 rfl Z84) <| Wv rfl (Zb rfl Z5q (OB.cell ob322 (j := 6) rfl)) ?_
     obtain ⟨A407, c408, rfl, rs409⟩ := RS.form (rs19.mono ((s27.le).trans ((le36).trans ((s45.le).trans ((le127).trans ((le204).trans le318))))))
     refine Wv rfl (Z1i rfl Z24) <| Wv rfl (Z1g rfl rfl) <| Wv rfl (Zi rfl rfl) <| Wm rfl rfl <| Z27 128 HF rfl (fun HF => ?_) (fun HF => ?_)
     ·refine Wv rfl (Z1 rfl Z1x) <| Wv rfl (Zb rfl Z04 (OB.cell ob322 (j := 0) rfl)) <| Wv rfl (Z1g rfl rfl) <| Wm rfl rfl <| Z27 132 HF rfl (fun HF => ?_) (fun HF => ?_)
      ·refine Wp rfl <| Wp rfl <| Wp rfl <| Wv rfl (Zj rfl rfl) <| Wm rfl rfl <| Wp rfl <| Wp rfl <| Wp rfl <| Wp rfl <| Wp rfl <| Wp rfl <| Wp rfl <| Wp rfl <| Wp rfl <| Wv rfl (Zj rfl rfl) <| Wv rfl (Zj rfl rfl) <| Wm rfl rfl <| Wv rfl (Z1 rfl Z3f) <| Wv rfl (Zb rfl Z76 (OB.cell ob322 (j := 9) rfl)) <| Wm rfl rfl <| Z27 152 HF rfl (fun HF => ?_) (fun HF => ?_)
       ·refine Wp rfl <| Wp rfl <| Wp rfl <| Wp rfl <| Wv rfl (Zj rfl rfl) <| Wv rfl (Zj rfl rfl) ?_
        obtain ⟨r413, hr414, HF⟩ := Z5 HF
        refine Wc rfl (Zd (vs := [pt b1 0, .bool true]) rfl Z0s) (Zf _ hr414 S319.sub ob321) ?_
        rintro v415 w416 ⟨h417, s418, rfl, ob419⟩
        have S420 := S319.trans s418 (Zl (.inl (by simp)) Zt)
        refine Z6 ?_
        have ob615 := (ob322.step1 s418 (Ne.symm ne29))
        refine Z01 [0, 2, 4] _ rfl ?_
        exact J606 ⟨h417, r413, HF, rfl, S420, s418.le, ob419, ob615⟩
       refine Wv rfl (Z1 rfl Z3s) <| Wv rfl (Zb rfl Z5q (OB.cell ob322 (j := 8) rfl)) ?_
       obtain ⟨A421, c422, rfl, rs423⟩ := RS.form (rs23.mono ((s27.le).trans ((le36).trans ((s45.le).trans ((le127).trans ((le204).trans le318))))))
       refine Wv rfl (Z1i rfl Z24) <| Wv rfl (Z1g rfl rfl) <| Wv rfl (Zi rfl rfl) <| Wv rfl (Zj rfl rfl) ?_
       obtain ⟨r424, hr425, HF⟩ := Z5 HF
       refine Wc rfl (Zd (vs := [pt b1 0, .bool (((x7.other.length : Int) : Int) == 0)]) rfl Z0s) (Zf _ hr425 S319.sub ob321) ?_
       rintro v426 w427 ⟨h428, s429, rfl, ob430⟩
       have S431 := S319.trans s429 (Zl (.inl (by simp)) Zt)
       refine Z6 ?_
       have ob616 := (ob322.step1 s429 (Ne.symm ne29))
       refine Z01 [0, 2, 4] _ rfl ?_
       exact J606 ⟨h428, r424, HF, rfl, S431, s429.le, ob430, ob616⟩
      refine Wv rfl (Z1 rfl Z1x) <| Wv rfl (Zb rfl Z04 (OB.cell ob322 (j := 0) rfl)) <| Wv rfl (Z1g rfl rfl) <| Wv rfl (Zi rfl rfl) <| Wm rfl rfl <| Z27 137 HF rfl (fun HF => ?_) (fun HF => ?_)
      ·refine Wp rfl <| Wp rfl <| Wp rfl <| Wp rfl <| Wp rfl <| Wp rfl <| Wp rfl <| Wp rfl <| Wp rfl <| Wv rfl (Zj rfl rfl) <| Wv rfl (Zj rfl rfl) <| Wm rfl rfl <| Wv rfl (Z1 rfl Z3f) <| Wv rfl (Zb rfl Z76 (OB.cell ob322 (j := 9) rfl)) <| Wm rfl rfl <| Z27 152 HF rfl (fun HF => ?_) (fun HF => ?_)
       ·refine Wp rfl <| Wp rfl <| Wp rfl <| Wp rfl <| Wv rfl (Zj rfl rfl) <| Wv rfl (Zj rfl rfl) ?_
        obtain ⟨r434, hr435, HF⟩ := Z5 HF
        refine Wc rfl (Zd (vs := [pt b1 0, .bool true]) rfl Z0s) (Zf _ hr435 S319.sub ob321) ?_
        rintro v436 w437 ⟨h438, s439, rfl, ob440⟩
        have S441 := S319.trans s439 (Zl (.inl (by simp)) Zt)
        refine Z6 ?_
        have ob617 := (ob322.step1 s439 (Ne.symm ne29))
        refine Z01 [0, 2, 4] _ rfl ?_
        exact J606 ⟨h438, r434, HF, rfl, S441, s439.le, ob440, ob617⟩
       refine Wv rfl (Z1 rfl Z3s) <| Wv rfl (Zb rfl Z5q (OB.cell ob322 (j := 8) rfl)) ?_
       obtain ⟨A442, c443, rfl, rs444⟩ := RS.form (rs23.mono ((s27.le).trans ((le36).trans ((s45.le).trans ((le127).trans ((le204).trans le318))))))
       refine Wv rfl (Z1i rfl Z24) <| Wv rfl (Z1g rfl rfl) <| Wv rfl (Zi rfl rfl) <| Wv rfl (Zj rfl rfl) ?_
       obtain ⟨r445, hr446, HF⟩ := Z5 HF
       refine Wc rfl (Zd (vs := [pt b1 0, .bool (((x7.other.length : Int) : Int) == 0)]) rfl Z0s) (Zf _ hr446 S319.sub ob321) ?_
       rintro v447 w448 ⟨h449, s450, rfl, ob451⟩
       have S452 := S319.trans s450 (Zl (.inl (by simp)) Zt)
       refine Z6 ?_
       have ob618 := (ob322.step1 s450 (Ne.symm ne29))
       refine Z01 [0, 2, 4] _ rfl ?_
       exact J606 ⟨h449, r445, HF, rfl, S452, s450.le, ob451, ob618⟩
      refine Wv rfl (Z1 rfl Z3g) <| Wv rfl (Zb rfl Zbt (OB.cell ob322 (j := 7) rfl)) ?_
      obtain ⟨A453, c454, rfl, rs455⟩ := RS.form (rs21.mono ((s27.le).trans ((le36).trans ((s45.le).trans ((le127).trans ((le204).trans le318))))))
      refine Wv rfl (Z1i rfl Z4u) <| Wv rfl (Z1g rfl rfl) <| Wm rfl rfl <| Z27 142 HF rfl (fun HF => ?_) (fun HF => ?_)
      ·refine Wv rfl (Z1 rfl Z3f) <| Wv rfl (Zb rfl Z76 (OB.cell ob322 (j := 9) rfl)) <| Wv rfl (Z30 rfl) <| Wv rfl (Zj rfl rfl) <| Wv rfl (Zi rfl rfl) <| Wv rfl (Zj rfl rfl) <| Wm rfl rfl <| Z27 149 HF rfl (fun HF => ?_) (fun HF => ?_)
       ·refine Wv rfl (Z1 rfl Z3f) <| Wv rfl (Zb rfl Z76 (OB.cell ob322 (j := 9) rfl)) <| Wm rfl rfl <| Z27 152 HF rfl (fun HF => ?_) (fun HF => ?_)
        ·refine Wp rfl <| Wp rfl <| Wp rfl <| Wp rfl <| Wv rfl (Zj rfl rfl) <| Wv rfl (Zj rfl rfl) ?_
         obtain ⟨r459, hr460, HF⟩ := Z5 HF
         refine Wc rfl (Zd (vs := [pt b1 0, .bool true]) rfl Z0s) (Zf _ hr460 S319.sub ob321) ?_
         rintro v461 w462 ⟨h463, s464, rfl, ob465⟩
         have S466 := S319.trans s464 (Zl (.inl (by simp)) Zt)
         refine Z6 ?_
         have ob619 := (ob322.step1 s464 (Ne.symm ne29))
         refine Z01 [0, 2, 4] _ rfl ?_
         exact J606 ⟨h463, r459, HF, rfl, S466, s464.le, ob465, ob619⟩
        refine Wv rfl (Z1 rfl Z3s) <| Wv rfl (Zb rfl Z5q (OB.cell ob322 (j := 8) rfl)) ?_
        obtain ⟨A467, c468, rfl, rs469⟩ := RS.form (rs23.mono ((s27.le).trans ((le36).trans ((s45.le).trans ((le127).trans ((le204).trans le318))))))
        refine Wv rfl (Z1i rfl Z24) <| Wv rfl (Z1g rfl rfl) <| Wv rfl (Zi rfl rfl) <| Wv rfl (Zj rfl rfl) ?_
        obtain ⟨r470, hr471, HF⟩ := Z5 HF
        refine Wc rfl (Zd (vs := [pt b1 0, .bool (((x7.other.length : Int) : Int) == 0)]) rfl Z0s) (Zf _ hr471 S319.sub ob321) ?_
        rintro v472 w473 ⟨h474, s475, rfl, ob476⟩
        have S477 := S319.trans s475 (Zl (.inl (by simp)) Zt)
        refine Z6 ?_
        have ob620 := (ob322.step1 s475 (Ne.symm ne29))
        refine Z01 [0, 2, 4] _ rfl ?_
        exact J606 ⟨h474, r470, HF, rfl, S477, s475.le, ob476, ob620⟩
       refine Wp rfl <| Wp rfl <| Wp rfl <| Wp rfl <| Wp rfl <| Wp rfl <| Wp rfl <| Wp rfl <| Wv rfl (Zi rfl rfl) ?_
       obtain ⟨r478, hr479, HF⟩ := Z5 HF
       refine Wc rfl (Zd (vs := [pt b1 0, .bool false]) rfl Z0s) (Zf _ hr479 S319.sub ob321) ?_
       rintro v480 w481 ⟨h482, s483, rfl, ob484⟩
       have S485 := S319.trans s483 (Zl (.inl (by simp)) Zt)
       refine Z6 ?_
       have ob621 := (ob322.step1 s483 (Ne.symm ne29))
       refine Z01 [0, 2, 4] _ rfl ?_
       exact J606 ⟨h482, r478, HF, rfl, S485, s483.le, ob484, ob621⟩
      refine Wp rfl <| Wp rfl <| Wp rfl <| Wv rfl (Zi rfl rfl) <| Wv rfl (Zi rfl rfl) <| Wv rfl (Zj rfl rfl) <| Wm rfl rfl <| Wp rfl <| Wp rfl <| Wp rfl <| Wp rfl <| Wp rfl <| Wp rfl <| Wp rfl <| Wp rfl <| Wv rfl (Zi rfl rfl) ?_
      obtain ⟨r486, hr487, HF⟩ := Z5 HF
      refine Wc rfl (Zd (vs := [pt b1 0, .bool false]) rfl Z0s) (Zf _ hr487 S319.sub ob321) ?_
      rintro v488 w489 ⟨h490, s491, rfl, ob492⟩
      have S493 := S319.trans s491 (Zl (.inl (by simp)) Zt)
      refine Z6 ?_
      have ob622 := (ob322.step1 s491 (Ne.symm ne29))
      refine Z01 [0, 2, 4] _ rfl ?_
      exact J606 ⟨h490, r486, HF, rfl, S493, s491.le, ob492, ob622⟩
     refine Wp rfl <| Wp rfl <| Wp rfl <| Wp rfl <| Wp rfl <| Wp rfl <| Wp rfl <| Wp rfl <| Wp rfl <| Wp rfl <| Wp rfl <| Wp rfl <| Wp rfl <| Wp rfl <| Wp rfl <| Wp rfl <| Wp rfl <| Wp rfl <| Wp rfl <| Wv rfl (Zi rfl rfl) <| Wm rfl rfl <| Wp rfl <| Wp rfl <| Wp rfl <| Wp rfl <| Wp rfl <| Wp rfl <| Wp rfl <| Wp rfl <| Wv rfl (Zi rfl rfl) ?_
     obtain ⟨r494, hr495, HF⟩ := Z5 HF
     refine Wc rfl (Zd (vs := [pt b1 0, .bool false]) rfl Z0s) (Zf _ hr495 S319.sub ob321) ?_
     rintro v496 w497 ⟨h498, s499, rfl, ob500⟩
     have S501 := S319.trans s499 (Zl (.inl (by simp)) Zt)
     refine Z6 ?_
     have ob623 := (ob322.step1 s499 (Ne.symm ne29))
     refine Z01 [0, 2, 4] _ rfl ?_
     exact J606 ⟨h498, r494, HF, rfl, S501, s499.le, ob500, ob623⟩
    intro J624
    refine Z0 <| Wm rfl rfl <| Wv rfl (Z1 rfl Z1x) <| Wv rfl (Zb rfl Z04 (OB.cell ob208 (j := 0) rfl)) <| Wv rfl (Z1g rfl rfl) <| Wm rfl rfl <| Z27 92 HF rfl (fun HF => ?_) (fun HF => ?_)
    ·refine Wp rfl <| Wp rfl <| Wp rfl <| Wp rfl <| Wv rfl (Zj rfl rfl) <| Wm rfl rfl <| Wv rfl (Z1 rfl Z1x) <| Wv rfl (Zb rfl Z04 (OB.cell ob208 (j := 0) rfl)) <| Wv rfl (Z1g rfl rfl) <| Wm rfl rfl <| Z27 102 HF rfl (fun HF => ?_) (fun HF => ?_)
     ·refine Wp rfl <| Wp rfl <| Wp rfl <| Wp rfl <| Wv rfl (Zj rfl rfl) <| Wv rfl (Zj rfl rfl) <| Wm rfl rfl <| Wv rfl (Z1 rfl Z1x) <| Wv rfl (Zb rfl Z04 (OB.cell ob208 (j := 0) rfl)) <| Wv rfl (Z1g rfl rfl) <| Wm rfl rfl <| Z27 113 HF rfl (fun HF => ?_) (fun HF => ?_)
      ·refine Wp rfl <| Wp rfl <| Wp rfl <| Wv rfl (Zj rfl rfl) <| Wv rfl (Zj rfl rfl) ?_
       obtain ⟨r212, hr213, HF⟩ := Z5 HF
       refine Wc rfl (Zd (vs := [pt b1 0, .bool true]) rfl Z0s) (Zf _ hr213 S205.sub ob207) ?_
       rintro v214 w215 ⟨h216, s217, rfl, ob218⟩
       have S219 := S205.trans s217 (Zl (.inl (by simp)) Zt)
       refine Z6 ?_
       have ob625 := (ob208.step1 s217 (Ne.symm ne29))
       refine Z01 [0, 2, 4, 8] _ rfl ?_
       exact J624 ⟨h216, r212, HF, rfl, S219, s217.le, ob218, ob625⟩
      refine Wv rfl (Z1 rfl Z47) <| Wv rfl (Zb rfl Z04 (OB.cell ob208 (j := 5) rfl)) <| Wv rfl (Z1g rfl rfl) <| Wv rfl (Zi rfl rfl) <| Wv rfl (Zj rfl rfl) ?_
      obtain ⟨r220, hr221, HF⟩ := Z5 HF
      refine Wc rfl (Zd (vs := [pt b1 0, .bool ((x7.n : Int) == 0)]) rfl Z0s) (Zf _ hr221 S205.sub ob207) ?_
      rintro v222 w223 ⟨h224, s225, rfl, ob226⟩
      have S227 := S205.trans s225 (Zl (.inl (by simp)) Zt)
      refine Z6 ?_
      have ob626 := (ob208.step1 s225 (Ne.symm ne29))
      refine Z01 [0, 2, 4, 8] _ rfl ?_
      exact J624 ⟨h224, r220, HF, rfl, S227, s225.le, ob226, ob626⟩
     refine Wv rfl (Z1 rfl Z8f) <| Wv rfl (Zb rfl t_agg_53 (OB.cell ob208 (j := 3) rfl)) ?_
     obtain ⟨A228, c229, rfl, rs230⟩ := RS.form (rs15.mono ((s27.le).trans ((le36).trans ((s45.le).trans ((le127).trans le204)))))
     refine Wv rfl (Z1i rfl Z4v) <| Wv rfl (Z1g rfl rfl) <| Wv rfl (Zi rfl rfl) <| Wv rfl (Zj rfl rfl) <| Wm rfl rfl <| Z27 109 HF rfl (fun HF => ?_) (fun HF => ?_)
     ·refine Wv rfl (Z1 rfl Z1x) <| Wv rfl (Zb rfl Z04 (OB.cell ob208 (j := 0) rfl)) <| Wv rfl (Z1g rfl rfl) <| Wm rfl rfl <| Z27 113 HF rfl (fun HF => ?_) (fun HF => ?_)
      ·refine Wp rfl <| Wp rfl <| Wp rfl <| Wv rfl (Zj rfl rfl) <| Wv rfl (Zj rfl rfl) ?_
       obtain ⟨r233, hr234, HF⟩ := Z5 HF
       refine Wc rfl (Zd (vs := [pt b1 0, .bool true]) rfl Z0s) (Zf _ hr234 S205.sub ob207) ?_
       rintro v235 w236 ⟨h237, s238, rfl, ob239⟩
       have S240 := S205.trans s238 (Zl (.inl (by simp)) Zt)
       refine Z6 ?_
       have ob627 := (ob208.step1 s238 (Ne.symm ne29))
       refine Z01 [0, 2, 4, 8] _ rfl ?_
       exact J624 ⟨h237, r233, HF, rfl, S240, s238.le, ob239, ob627⟩
      refine Wv rfl (Z1 rfl Z47) <| Wv rfl (Zb rfl Z04 (OB.cell ob208 (j := 5) rfl)) <| Wv rfl (Z1g rfl rfl) <| Wv rfl (Zi rfl rfl) <| Wv rfl (Zj rfl rfl) ?_
      obtain ⟨r241, hr242, HF⟩ := Z5 HF
      refine Wc rfl (Zd (vs := [pt b1 0, .bool ((x7.n : Int) == 0)]) rfl Z0s) (Zf _ hr242 S205.sub ob207) ?_
      rintro v243 w244 ⟨h245, s246, rfl, ob247⟩
      have S248 := S205.trans s246 (Zl (.inl (by simp)) Zt)
      refine Z6 ?_
      have ob628 := (ob208.step1 s246 (Ne.symm ne29))
      refine Z01 [0, 2, 4, 8] _ rfl ?_
      exact J624 ⟨h245, r241, HF, rfl, S248, s246.le, ob247, ob628⟩
     refine Wp rfl <| Wp rfl <| Wp rfl <| Wp rfl <| Wp rfl <| Wp rfl <| Wp rfl <| Wp rfl <| Wv rfl (Zi rfl rfl) ?_
     obtain ⟨r249, hr250, HF⟩ := Z5 HF
     refine Wc rfl (Zd (vs := [pt b1 0, .bool false]) rfl Z0s) (Zf _ hr250 S205.sub ob207) ?_
     rintro v251 w252 ⟨h253, s254, rfl, ob255⟩
     have S256 := S205.trans s254 (Zl (.inl (by simp)) Zt)
     refine Z6 ?_
     have ob629 := (ob208.step1 s254 (Ne.symm ne29))
     refine Z01 [0, 2, 4, 8] _ rfl ?_
     exact J624 ⟨h253, r249, HF, rfl, S256, s254.le, ob255, ob629⟩
    refine Wv rfl (Z1 rfl Z8d) <| Wv rfl (Zb rfl Z31 (OB.cell ob208 (j := 2) rfl)) ?_
    obtain ⟨A257, c258, rfl, rs259⟩ := RS.form (rs13.mono ((s27.le).trans ((le36).trans ((s45.le).trans ((le127).trans le204)))))
    refine Wv rfl (Z1i rfl Z0v) <| Wv rfl (Z1g rfl rfl) <| Wv rfl (Zi rfl rfl) <| Wm rfl rfl <| Z27 98 HF rfl (fun HF => ?_) (fun HF => ?_)
    ·refine Wv rfl (Z1 rfl Z1x) <| Wv rfl (Zb rfl Z04 (OB.cell ob208 (j := 0) rfl)) <| Wv rfl (Z1g rfl rfl) <| Wm rfl rfl <| Z27 102 HF rfl (fun HF => ?_) (fun HF => ?_)
     ·refine Wp rfl <| Wp rfl <| Wp rfl <| Wp rfl <| Wv rfl (Zj rfl rfl) <| Wv rfl (Zj rfl rfl) <| Wm rfl rfl <| Wv rfl (Z1 rfl Z1x) <| Wv rfl (Zb rfl Z04 (OB.cell ob208 (j := 0) rfl)) <| Wv rfl (Z1g rfl rfl) <| Wm rfl rfl <| Z27 113 HF rfl (fun HF => ?_) (fun HF => ?_)
      ·refine Wp rfl <| Wp rfl <| Wp rfl <| Wv rfl (Zj rfl rfl) <| Wv rfl (Zj rfl rfl) ?_
       obtain ⟨r263, hr264, HF⟩ := Z5 HF
       refine Wc rfl (Zd (vs := [pt b1 0, .bool true]) rfl Z0s) (Zf _ hr264 S205.sub ob207) ?_
       rintro v265 w266 ⟨h267, s268, rfl, ob269⟩
       have S270 := S205.trans s268 (Zl (.inl (by simp)) Zt)
       refine Z6 ?_
       have ob630 := (ob208.step1 s268 (Ne.symm ne29))
       refine Z01 [0, 2, 4, 8] _ rfl ?_
       exact J624 ⟨h267, r263, HF, rfl, S270, s268.le, ob269, ob630⟩
      refine Wv rfl (Z1 rfl Z47) <| Wv rfl (Zb rfl Z04 (OB.cell ob208 (j := 5) rfl)) <| Wv rfl (Z1g rfl rfl) <| Wv rfl (Zi rfl rfl) <| Wv rfl (Zj rfl rfl) ?_
      obtain ⟨r271, hr272, HF⟩ := Z5 HF
      refine Wc rfl (Zd (vs := [pt b1 0, .bool ((x7.n : Int) == 0)]) rfl Z0s) (Zf _ hr272 S205.sub ob207) ?_
      rintro v273 w274 ⟨h275, s276, rfl, ob277⟩
      have S278 := S205.trans s276 (Zl (.inl (by simp)) Zt)
      refine Z6 ?_
      have ob631 := (ob208.step1 s276 (Ne.symm ne29))
      refine Z01 [0, 2, 4, 8] _ rfl ?_
      exact J624 ⟨h275, r271, HF, rfl, S278, s276.le, ob277, ob631⟩
     refine Wv rfl (Z1 rfl Z8f) <| Wv rfl (Zb rfl t_agg_53 (OB.cell ob208 (j := 3) rfl)) ?_
     obtain ⟨A279, c280, rfl, rs281⟩ := RS.form (rs15.mono ((s27.le).trans ((le36).trans ((s45.le).trans ((le127).trans le204)))))
     refine Wv rfl (Z1i rfl Z4v) <| Wv rfl (Z1g rfl rfl) <| Wv rfl (Zi rfl rfl) <| Wv rfl (Zj rfl rfl) <| Wm rfl rfl <| Z27 109 HF rfl (fun HF => ?_) (fun HF => ?_)
     ·refine Wv rfl (Z1 rfl Z1x) <| Wv rfl (Zb rfl Z04 (OB.cell ob208 (j := 0) rfl)) <| Wv rfl (Z1g rfl rfl) <| Wm rfl rfl <| Z27 113 HF rfl (fun HF => ?_) (fun HF => ?_)
      ·refine Wp rfl <| Wp rfl <| Wp rfl <| Wv rfl (Zj rfl rfl) <| Wv rfl (Zj rfl rfl) ?_
       obtain ⟨r284, hr285, HF⟩ := Z5 HF
       refine Wc rfl (Zd (vs := [pt b1 0, .bool true]) rfl Z0s) (Zf _ hr285 S205.sub ob207) ?_
       rintro v286 w287 ⟨h288, s289, rfl, ob290⟩
       have S291 := S205.trans s289 (Zl (.inl (by simp)) Zt)
       refine Z6 ?_
       have ob632 := (ob208.step1 s289 (Ne.symm ne29))
       refine Z01 [0, 2, 4, 8] _ rfl ?_
       exact J624 ⟨h288, r284, HF, rfl, S291, s289.le, ob290, ob632⟩
      refine Wv rfl (Z1 rfl Z47) <| Wv rfl (Zb rfl Z04 (OB.cell ob208 (j := 5) rfl)) <| Wv rfl (Z1g rfl rfl) <| Wv rfl (Zi rfl rfl) <| Wv rfl (Zj rfl rfl) ?_
      obtain ⟨r292, hr293, HF⟩ := Z5 HF
      refine Wc rfl (Zd (vs := [pt b1 0, .bool ((x7.n : Int) == 0)]) rfl Z0s) (Zf _ hr293 S205.sub ob207) ?_
      rintro v294 w295 ⟨h296, s297, rfl, ob298⟩
      have S299 := S205.trans s297 (Zl (.inl (by simp)) Zt)
      refine Z6 ?_
      have ob633 := (ob208.step1 s297 (Ne.symm ne29))
      refine Z01 [0, 2, 4, 8] _ rfl ?_
      exact J624 ⟨h296, r292, HF, rfl, S299, s297.le, ob298, ob633⟩
     refine Wp rfl <| Wp rfl <| Wp rfl <| Wp rfl <| Wp rfl <| Wp rfl <| Wp rfl <| Wp rfl <| Wv rfl (Zi rfl rfl) ?_
     obtain ⟨r300, hr301, HF⟩ := Z5 HF
     refine Wc rfl (Zd (vs := [pt b1 0, .bool false]) rfl Z0s) (Zf _ hr301 S205.sub ob207) ?_
     rintro v302 w303 ⟨h304, s305, rfl, ob306⟩
     have S307 := S205.trans s305 (Zl (.inl (by simp)) Zt)
     refine Z6 ?_
     have ob634 := (ob208.step1 s305 (Ne.symm ne29))
     refine Z01 [0, 2, 4, 8] _ rfl ?_
     exact J624 ⟨h304, r300, HF, rfl, S307, s305.le, ob306, ob634⟩
    refine Wp rfl <| Wp rfl <| Wp rfl <| Wp rfl <| Wp rfl <| Wp rfl <| Wp rfl <| Wp rfl <| Wp rfl <| Wv rfl (Zi rfl rfl) <| Wm rfl rfl <| Wp rfl <| Wp rfl <| Wp rfl <| Wp rfl <| Wp rfl <| Wp rfl <| Wp rfl <| Wp rfl <| Wv rfl (Zi rfl rfl) ?_
    obtain ⟨r308, hr309, HF⟩ := Z5 HF
    refine Wc rfl (Zd (vs := [pt b1 0, .bool false]) rfl Z0s) (Zf _ hr309 S205.sub ob207) ?_
    rintro v310 w311 ⟨h312, s313, rfl, ob314⟩
    have S315 := S205.trans s313 (Zl (.inl (by simp)) Zt)
    refine Z6 ?_
    have ob635 := (ob208.step1 s313 (Ne.symm ne29))
    refine Z01 [0, 2, 4, 8] _ rfl ?_
    exact J624 ⟨h312, r308, HF, rfl, S315, s313.le, ob314, ob635⟩
   intro J636
   refine Z0 <| Wm rfl rfl <| Wv rfl (Z1 rfl Z3u) <| Wv rfl (Zb rfl Z31 (OB.cell ob134 (j := 4) rfl)) ?_
   obtain ⟨A135, c136, rfl, rs137⟩ := RS.form (rs17.mono ((s27.le).trans ((le36).trans ((s45.le).trans le127))))
   refine Wv rfl (Z1i rfl Z0v) <| Wm rfl rfl <| Wv rfl (Z1g rfl rfl) <| Wm rfl rfl <| Z27 70 HF rfl (fun HF => ?_) (fun HF => ?_)
   ·refine Wm rfl rfl <| Wm rfl rfl <| Z27 72 HF rfl (fun HF => ?_) (fun HF => ?_)
    ·refine Wv rfl (Z1 rfl Zgd) <| Wv rfl (Zb rfl Z32 (OB.cell ob134 (j := 1) rfl)) ?_
     obtain ⟨r140, hr141, HF⟩ := Z5 HF
     refine Wc rfl (Zd (vs := [.string x7.name]) rfl t_ent_84) (Zbx _ hr141 S128.sub) ?_
     rintro _ w143 ⟨h144, s145, rfl⟩
     have S146 := S128.trans0 s145
     refine Wv rfl (Zj rfl rfl) <| Wm rfl rfl <| Z27 77 HF rfl (fun HF => ?_) (fun HF => ?_)
     ·refine Wp rfl <| Wp rfl <| Wp rfl <| Wp rfl <| Wp rfl <| Wp rfl <| Wp rfl <| Wv rfl (Zj rfl rfl) <| Wv rfl (Zj rfl rfl) ?_
      have ob148 := (ob133.step0 s145)
      obtain ⟨r149, hr150, HF⟩ := Z5 HF
      refine Wc rfl (Zd (vs := [pt b1 0, .bool true]) rfl Z0s) (Zf _ hr150 S146.sub ob148) ?_
      rintro v151 w152 ⟨h153, s154, rfl, ob155⟩
      have S156 := S146.trans s154 (Zl (.inl (by simp)) Zt)
      refine Z6 ?_
      have ob637 := ((ob134.step0 s145).step1 s154 (Ne.symm ne29))
      refine Z01 [0, 2, 4, 8] _ rfl ?_
      exact J636 ⟨h153, r149, HF, rfl, S156, (s145.le).trans s154.le, ob155, ob637⟩
     refine Wm rfl rfl <| Wv rfl (Z30 rfl) <| Wm rfl rfl <| Z27 80 HF rfl (fun HF => ?_) (fun HF => ?_)
     ·refine Wv rfl (Z1 rfl Zgd) ?_
      have ob158 := (ob134.step0 s145)
      refine Wv rfl (Zb rfl Z32 (OB.cell ob158 (j := 1) rfl)) <| Wv rfl (Z0d rfl rfl) <| Wv rfl (Zj rfl rfl) <| Wv rfl (Zi rfl rfl) <| Wv rfl (Zj rfl rfl) ?_
      have ob159 := (ob133.step0 s145)
      obtain ⟨r160, hr161, HF⟩ := Z5 HF
      refine Wc rfl (Zd (vs := [pt b1 0, .bool (bEq x7.name Z1e)]) rfl Z0s) (Zf _ hr161 S146.sub ob159) ?_
      rintro v162 w163 ⟨h164, s165, rfl, ob166⟩
      have S167 := S146.trans s165 (Zl (.inl (by simp)) Zt)
      refine Z6 ?_
      have ob638 := (ob158.step1 s165 (Ne.symm ne29))
      refine Z01 [0, 2, 4, 8] _ rfl ?_
      exact J636 ⟨h164, r160, HF, rfl, S167, (s145.le).trans s165.le, ob166, ob638⟩
     refine Wp rfl <| Wp rfl <| Wp rfl <| Wv rfl (Zi rfl rfl) <| Wv rfl (Zi rfl rfl) <| Wv rfl (Zj rfl rfl) ?_
     have ob168 := (ob133.step0 s145)
     obtain ⟨r169, hr170, HF⟩ := Z5 HF
     refine Wc rfl (Zd (vs := [pt b1 0, .bool false]) rfl Z0s) (Zf _ hr170 S146.sub ob168) ?_
     rintro v171 w172 ⟨h173, s174, rfl, ob175⟩
     have S176 := S146.trans s174 (Zl (.inl (by simp)) Zt)
     refine Z6 ?_
     have ob639 := ((ob134.step0 s145).step1 s174 (Ne.symm ne29))
     refine Z01 [0, 2, 4, 8] _ rfl ?_
     exact J636 ⟨h173, r169, HF, rfl, S176, (s145.le).trans s174.le, ob175, ob639⟩
    refine Wp rfl <| Wp rfl <| Wp rfl <| Wv rfl (Zi rfl rfl) <| Wm rfl rfl <| Wm rfl rfl <| Wv rfl (Z30 rfl) <| Wm rfl rfl <| Z27 80 HF rfl (fun HF => ?_) (fun HF => ?_)
    ·refine Wv rfl (Z1 rfl Zgd) <| Wv rfl (Zb rfl Z32 (OB.cell ob134 (j := 1) rfl)) <| Wv rfl (Z0d rfl rfl) <| Wv rfl (Zj rfl rfl) <| Wv rfl (Zi rfl rfl) <| Wv rfl (Zj rfl rfl) ?_
     obtain ⟨r178, hr179, HF⟩ := Z5 HF
     refine Wc rfl (Zd (vs := [pt b1 0, .bool (bEq x7.name Z1e)]) rfl Z0s) (Zf _ hr179 S128.sub ob133) ?_
     rintro v180 w181 ⟨h182, s183, rfl, ob184⟩
     have S185 := S128.trans s183 (Zl (.inl (by simp)) Zt)
     refine Z6 ?_
     have ob640 := (ob134.step1 s183 (Ne.symm ne29))
     refine Z01 [0, 2, 4, 8] _ rfl ?_
     exact J636 ⟨h182, r178, HF, rfl, S185, s183.le, ob184, ob640⟩
    refine Wp rfl <| Wp rfl <| Wp rfl <| Wv rfl (Zi rfl rfl) <| Wv rfl (Zi rfl rfl) <| Wv rfl (Zj rfl rfl) ?_
    obtain ⟨r186, hr187, HF⟩ := Z5 HF
    refine Wc rfl (Zd (vs := [pt b1 0, .bool false]) rfl Z0s) (Zf _ hr187 S128.sub ob133) ?_
    rintro v188 w189 ⟨h190, s191, rfl, ob192⟩
    have S193 := S128.trans s191 (Zl (.inl (by simp)) Zt)
    refine Z6 ?_
    have ob641 := (ob134.step1 s191 (Ne.symm ne29))
    refine Z01 [0, 2, 4, 8] _ rfl ?_
    exact J636 ⟨h190, r186, HF, rfl, S193, s191.le, ob192, ob641⟩
   refine Wp rfl <| Wp rfl <| Wp rfl <| Wp rfl <| Wp rfl <| Wp rfl <| Wp rfl <| Wp rfl <| Wp rfl <| Wp rfl <| Wp rfl <| Wp rfl <| Wp rfl <| Wp rfl <| Wp rfl <| Wv rfl (Zi rfl rfl) ?_
   obtain ⟨r194, hr195, HF⟩ := Z5 HF
   refine Wc rfl (Zd (vs := [pt b1 0, .bool false]) rfl Z0s) (Zf _ hr195 S128.sub ob133) ?_
   rintro v196 w197 ⟨h198, s199, rfl, ob200⟩
   have S201 := S128.trans s199 (Zl (.inl (by simp)) Zt)
   refine Z6 ?_
   have ob642 := (ob134.step1 s199 (Ne.symm ne29))
   refine Z01 [0, 2, 4, 8] _ rfl ?_
   exact J636 ⟨h198, r194, HF, rfl, S201, s199.le, ob200, ob642⟩
  intro J643
  refine Zc <| Z0 <| Wv rfl (Z1 rfl Z1x) ?_
  have ob48 := (ob39.step1 s45 (Ne.symm ne29))
  refine Wv rfl (Zb rfl Z04 (OB.cell ob48 (j := 0) rfl)) <| Z6 <| Z4 <| Z0r <| Zc <| Z0 <| Wv rfl (Z1g rfl rfl) <| Wa rfl rfl <| Z6 <| Z4 <| Z15 HF rfl (fun HF => ?_) (fun HF => ?_)
  ·refine Zc <| Z0 <| Wa rfl rfl <| Z6 <| Z4 <| Z0 <| Wm rfl rfl <| Wv rfl (Z1 rfl Z8d) <| Wv rfl (Zb rfl Z31 (OB.cell ob48 (j := 2) rfl)) ?_
   obtain ⟨A50, c51, rfl, rs52⟩ := RS.form (rs13.mono ((s27.le).trans ((le36).trans s45.le)))
   refine Wv rfl (Z1i rfl Z0v) <| Wv rfl (Zh1 rfl rfl) ?_
   obtain ⟨r53, hr54, HF⟩ := Z5 HF
   refine Wc rfl (Zd (vs := [pt b1 0, .bool (decide (((x7.index.length : Int) : Int) ≤ 1))]) rfl Z0s) (Zf _ hr54 S47.sub ob46) ?_
   rintro v55 w56 ⟨h57, s58, rfl, ob59⟩
   have S60 := S47.trans s58 (Zl (.inl (by simp)) Zt)
   refine Z6 <| Zy ?_
   have ob644 := (ob48.step1 s58 (Ne.symm ne29))
   refine Z01 [0, 2, 4, 6, 7, 8] _ rfl ?_
   exact J643 ⟨h57, 1, true, false, r53, HF, rfl, S60, s58.le, ob59, ob644⟩
  refine Zc <| Z0 <| Wv rfl (Z1g rfl rfl) <| Wa rfl rfl <| Z6 <| Z4 <| Z15 HF rfl (fun HF => ?_) (fun HF => ?_)
  ·refine Zc <| Z0 <| Wv rfl (Z1 rfl Z3u) <| Wv rfl (Zb rfl Z31 (OB.cell ob48 (j := 4) rfl)) ?_
   obtain ⟨A62, c63, rfl, rs64⟩ := RS.form (rs17.mono ((s27.le).trans ((le36).trans s45.le)))
   refine Wv rfl (Z1i rfl Z0v) <| Wa rfl rfl <| Wa rfl rfl <| Z6 <| Z4 <| Z0 <| Wm rfl rfl <| Wv rfl (Z1 rfl Z8f) <| Wv rfl (Zb rfl t_agg_53 (OB.cell ob48 (j := 3) rfl)) <| Wv rfl (Z1 rfl Z3u) <| Wv rfl (Zb rfl Z31 (OB.cell ob48 (j := 4) rfl)) <| Wv rfl (Z1i rfl Z0v) ?_
   obtain ⟨r65, hr66, HF⟩ := Z5 HF
   refine Wc rfl (Zd (vs := [pt b1 0, v14, vi (x7.args.length : Int)]) rfl t_ent_135) (ok_ref02_Size_Named _ hr66 S47.sub (rs15.mono ((s27.le).trans ((le36).trans s45.le))) ob46) ?_
   rintro v67 w68 ⟨h69, s70, rfl, ob71⟩
   have S72 := S47.trans s70 (Zl (.inl (by simp)) Zt)
   refine Z6 <| Zy ?_
   have ob645 := (ob48.step1 s70 (Ne.symm ne29))
   refine Z01 [0, 2, 4, 6, 7, 8] _ rfl ?_
   exact J643 ⟨h69, (x7.args.length : Int), true, false, r65, HF, rfl, S72, s70.le, ob71, ob645⟩
  refine Zc <| Z0 <| Wv rfl (Z1g rfl rfl) <| Wa rfl rfl <| Z6 <| Z4 <| Z15 HF rfl (fun HF => ?_) (fun HF => ?_)
  ·refine Z0 <| Wa rfl rfl <| Z6 <| Zy <| Z01 [0, 2, 4, 6, 7, 8] _ rfl ?_
   exact J643 ⟨h44, 1, false, true, r40.2.2, HF, rfl, S47, Hle.refl _, ob46, ob48⟩
  refine Zc <| Z0 <| Wv rfl (Z1g rfl rfl) <| Wa rfl rfl <| Z6 <| Z4 <| Z15 HF rfl (fun HF => ?_) (fun HF => ?_)
  ·refine Zq <| Zy <| Z01 [0, 2, 4, 6, 7, 8] _ rfl ?_
   exact J643 ⟨h44, 1, false, false, r40.2.2, HF, rfl, S47, Hle.refl _, ob46, ob48⟩
  refine Zc <| Z0 <| Wv rfl (Z1g rfl rfl) <| Wa rfl rfl <| Z6 <| Z4 <| Z15 HF rfl (fun HF => ?_) (fun HF => ?_)
  ·refine Zc <| Z0 <| Wa rfl rfl <| Wa rfl rfl <| Wa rfl rfl <| Z6 <| Z4 <| Z0 <| Wm rfl rfl <| Wv rfl (Z1 rfl Z47) <| Wv rfl (Zb rfl Z04 (OB.cell ob48 (j := 5) rfl)) <| Wv rfl (Zca rfl rfl) <| Wm rfl rfl <| Z27 52 HF rfl (fun HF => ?_) (fun HF => ?_)
   ·refine Wv rfl (Z1 rfl Z47) <| Wv rfl (Zb rfl Z04 (OB.cell ob48 (j := 5) rfl)) ?_
    obtain ⟨r77, hr78, HF⟩ := Z5 HF
    refine Wc rfl (Zd (vs := [vi x7.n]) rfl t_ent_136) (ok_ref02_label _ hr78 S47.sub) ?_
    rintro _ w80 ⟨h81, s82, rfl⟩
    have S83 := S47.trans0 s82
    refine Wv rfl (Zj rfl rfl) ?_
    have ob84 := (ob46.step0 s82)
    obtain ⟨r85, hr86, HF⟩ := Z5 HF
    refine Wc rfl (Zd (vs := [pt b1 0, .bool r77]) rfl Z0s) (Zf _ hr86 S83.sub ob84) ?_
    rintro v87 w88 ⟨h89, s90, rfl, ob91⟩
    have S92 := S83.trans s90 (Zl (.inl (by simp)) Zt)
    refine Z6 <| Zy ?_
    have ob646 := ((ob48.step0 s82).step1 s90 (Ne.symm ne29))
    refine Z01 [0, 2, 4, 6, 7, 8] _ rfl ?_
    exact J643 ⟨h89, 2, true, true, r85, HF, rfl, S92, (s82.le).trans s90.le, ob91, ob646⟩
   refine Wp rfl <| Wp rfl <| Wp rfl <| Wv rfl (Zi rfl rfl) ?_
   obtain ⟨r93, hr94, HF⟩ := Z5 HF
   refine Wc rfl (Zd (vs := [pt b1 0, .bool false]) rfl Z0s) (Zf _ hr94 S47.sub ob46) ?_
   rintro v95 w96 ⟨h97, s98, rfl, ob99⟩
   have S100 := S47.trans s98 (Zl (.inl (by simp)) Zt)
   refine Z6 <| Zy ?_
   have ob647 := (ob48.step1 s98 (Ne.symm ne29))
   refine Z01 [0, 2, 4, 6, 7, 8] _ rfl ?_
   exact J643 ⟨h97, 2, true, true, r93, HF, rfl, S100, s98.le, ob99, ob647⟩
  refine Z09 (fun E w103 => ∃ (h102 : Hp) (x106 : Bool), Z8o k (Zk k) x7 x10 r40 x106 = some r ∧ E = [(0, pt b1 0), (2, vi x10), (4, pt b25 0), (6, vi 1), (7, .bool false), (8, .bool false), (18, vi x7.op), (58, .bool x106)] ∧ Stp [b1] w0 h0 w103 h102 ∧ Hle h44 h102 ∧ OB w103 h102 b1 T2 [vi r40.1, vi r40.2.1, .bool r40.2.2] ∧ OB w103 h102 b25 56 [vi x7.op, .string x7.name, v12, v14, v16, vi x7.n, v18, v20, v22, .bool x7.els]) ?_ ?_
  ·rintro E w103 ⟨h102, x106, HF, rfl, S105, le104, ob107, ob108⟩
   refine Z15 HF rfl (fun HF => ?_) (fun HF => ?_)
   ·refine Z0 <| Wa rfl rfl <| Z6 <| Zy <| Z01 [0, 2, 4, 6, 7, 8] _ rfl ?_
    exact J643 ⟨h102, 1, false, true, r40.2.2, HF, rfl, S105, le104, ob107, ob108⟩
   refine Z09 (fun E w112 => ∃ (h111 : Hp) (x115 : Bool), Z8w k (Zk k) x7 x10 r40 x115 = some r ∧ E = [(0, pt b1 0), (2, vi x10), (4, pt b25 0), (6, vi 1), (7, .bool false), (8, .bool false), (61, .bool x115)] ∧ Stp [b1] w0 h0 w112 h111 ∧ Hle h102 h111 ∧ OB w112 h111 b1 T2 [vi r40.1, vi r40.2.1, .bool r40.2.2] ∧ OB w112 h111 b25 56 [vi x7.op, .string x7.name, v12, v14, v16, vi x7.n, v18, v20, v22, .bool x7.els]) ?_ ?_
   ·rintro E w112 ⟨h111, x115, HF, rfl, S114, le113, ob116, ob117⟩
    refine Z15 HF rfl (fun HF => ?_) (fun HF => ?_)
    ·refine Z0 <| Wa rfl rfl <| Z6 <| Zy <| Z01 [0, 2, 4, 6, 7, 8] _ rfl ?_
     exact J643 ⟨h111, 0, false, false, r40.2.2, HF, rfl, S114, (le104).trans le113, ob116, ob117⟩
    refine Z0 <| Wm rfl rfl <| Wv rfl (Zp rfl) <| Wv rfl (Z1 rfl Z6f) <| Zr (vs := [.bool true]) rfl rfl rfl rfl t_size_4 (Z3 rfl Zx) ob116 S114.sub (by simp) (ds := [vi r40.1, vi r40.2.1, .bool true]) rfl (fun w119 s120 ob121 => ?_)
    have S122 := S114.trans1 s120 (.inl (by simp))
    refine Z6 <| Zy ?_
    have ob648 := (ob117.step1 s120 (Ne.symm ne29))
    refine Z01 [0, 2, 4, 6, 7, 8] _ rfl ?_
    exact J643 ⟨h111, 1, false, false, true, HF, rfl, S122, (le104).trans ((le113).trans s120.le), ob121, ob648⟩
   intro J123
   refine Zc <| Z0 <| Wv rfl (Z1g rfl rfl) <| Wa rfl rfl <| Z6 <| Z4 <| Z15 HF rfl (fun HF => ?_) (fun HF => ?_)
   ·refine Zq <| Z01 [0, 2, 4, 6, 7, 8, 61] _ rfl ?_
    exact J123 ⟨h102, (x7.op : Int) == 8, HF, rfl, S105, Hle.refl _, ob107, ob108⟩
   refine Z0 <| Wv rfl (Z1g rfl rfl) <| Wa rfl rfl <| Z6 <| Z01 [0, 2, 4, 6, 7, 8, 61] _ rfl ?_
   exact J123 ⟨h102, (x7.op : Int) == 9, HF, rfl, S105, Hle.refl _, ob107, ob108⟩
  intro J124
  refine Zc <| Z0 <| Wv rfl (Z1g rfl rfl) <| Wa rfl rfl <| Z6 <| Z4 <| Z15 HF rfl (fun HF => ?_) (fun HF => ?_)
  ·refine Zq <| Z01 [0, 2, 4, 6, 7, 8, 18, 58] _ rfl ?_
   exact J124 ⟨h44, (x7.op : Int) == 6, HF, rfl, S47, Hle.refl _, ob46, ob48⟩
  refine Z0 <| Wv rfl (Z1g rfl rfl) <| Wa rfl rfl <| Z6 <| Z01 [0, 2, 4, 6, 7, 8, 18, 58] _ rfl ?_
  exact J124 ⟨h44, (x7.op : Int) == 7, HF, rfl, S47, Hle.refl _, ob46, ob48⟩
 intro J649
 refine Zc <| Z0 <| Wm rfl rfl <| Wv rfl (Zp rfl) <| Wv rfl (Z1 rfl Z6f) ?_
 have ob32 := (ob6.step0 s27)
 refine Wv rfl (Zb rfl Z76 (OB.cell ob32 (j := 2) rfl)) <| Z6 <| Z4 <| Z15 HF rfl (fun HF => ?_) (fun HF => ?_)
 ·refine Z0b <| Zv <| WQ.ret0 rfl ?_
  obtain rfl := Option.some.inj HF
  exact ⟨_, rfl, h0, S31, rfl, ob32⟩
 refine Zq <| Z01 [0, 2, 4] _ rfl ?_
 exact J649 ⟨h0, HF, rfl, S31, Hle.refl _, ob32, ob28⟩
theorem s_ref02_Size_Stmts (k : Nat) (IH : ∀ j, j ≤ k → Z82 (Zk j).ref02_Size_arm ∧ Z7j (Zk j).ref02_Size_stmt ∧ Z5f (Zk j).ref02_Size_Stmts) : Z5f (Zfo k (Zk k)) := by
 intro x3 x4 x5 xs7 x10 r HF w0 h0 b1 T2 v8 hs0 rs9 ob6
 have S0 : Stp [b1] w0 h0 w0 h0 := Stp.refl hs0 _
 have lt11 : b1 < w0.heap.size := OB.lt ob6
 refine Z4o (n := 27) Tryz.func44 rfl Tryz.ntmps44 rfl [(0, pt b1 0), (1, v8), (2, vi x10)] rfl <| Zc <| Z0 <| Wa rfl rfl <| Z6 <| Z4 <| Z0r <| Z5v <| Z99 [0, 1, 2, 6] [(0, pt b1 0), (1, v8), (2, vi x10), (6, vi 0)] rfl <| Z5u (K := k) (fun j E w13 => ∃ (h12 : Hp) (x16 : Int) (x17 : Int) (x18 : Int) (x19 : Bool), (Zk j).ref02_Size_Stmts_l1 xs7 x10 x16 x17 x18 x19 = some r ∧ E = [(0, pt b1 0), (1, v8), (2, vi x10), (6, vi x16)] ∧ Stp [b1] w0 h0 w13 h12 ∧ Hle h0 h12 ∧ OB w13 h12 b1 T2 [vi x17, vi x18, .bool x19]) ?_ ?_ (j := k) (Nat.le_refl _) ?_
 ·rintro E w13 ⟨_, _, _, _, _, HF, _⟩; cases HF
 ·rintro j21 hj23 IHL22 E w13 ⟨h12, x16, x17, x18, x19, HF, rfl, S15, le14, ob20⟩
  refine Z09 (fun E w37 => ∃ (h36 : Hp), Zal j21 (Zk j21) xs7 x10 x16 x17 x18 x19 = some r ∧ E = [(0, pt b1 0), (1, v8), (2, vi x10), (6, vi x16)] ∧ Stp [b1] w0 h0 w37 h36 ∧ Hle h12 h36 ∧ OB w37 h36 b1 T2 [vi x17, vi x18, .bool x19]) ?_ ?_
  ·rintro E w37 ⟨h36, HF, rfl, S39, le38, ob40⟩
   refine Zc <| Z0r <| Z0 <| Wm rfl rfl <| Wm rfl rfl <| Wm rfl rfl ?_
   obtain ⟨A41, c42, rfl, rs43⟩ := RS.form (rs9.mono ((le14).trans le38))
   obtain ⟨e44, he45, HF⟩ := Z5 HF
   obtain ⟨b46, o47, rfl, h49, h50, ra48⟩ := RS.atO rs43 he45
   obtain ⟨cs51, r52, hc53⟩ := ra48
   refine Wv rfl (Z1p rfl rfl Z24 Z0u h49 h50) <| Wv rfl (Z2t (cs := cs51) rfl Z6y (by rw [Rp.len r52]; exact Z0u) (fun j v hv => S39.sub.at_ _ _ _ (hc53 j v hv))) <| Wm rfl rfl ?_
   obtain ⟨r54, hr55, HF⟩ := Z5 HF
   refine Wc rfl (Zd (vs := [pt b1 0, .agg cs51.toArray, vi x10]) rfl t_ent_76) ((IH _ (Nat.le_trans (Nat.le_of_succ_le hj23) (Nat.le_refl _))).2.1 hr55 S39.sub r52 ob40) ?_
   rintro v56 w57 ⟨h58, s59, rfl, ob60⟩
   have S61 := S39.trans s59 (Zl (.inl (by simp)) Zt)
   refine Z6 <| Zy <| Z4 <| Z0 <| Wm rfl rfl <| Wv rfl (Z3e rfl rfl) <| Wa rfl rfl <| Z6 <| Z2p <| Z99 [0, 1, 2, 6] [(0, pt b1 0), (1, sl b46 o47 (xs7).length c42), (2, vi x10), (6, vi (IntKind.i64.wrap (x16 + 1)))] rfl ?_
   exact IHL22 j21 (Nat.le_refl _) _ _ ⟨h58, IntKind.i64.wrap (x16 + 1), r54.1, r54.2.1, r54.2.2, HF, rfl, S61, (le14).trans ((le38).trans s59.le), ob60⟩
  intro J62
  refine Z09 (fun E w29 => ∃ (h28 : Hp) (x32 : Bool), Z4l j21 (Zk j21) xs7 x10 x16 x17 x18 x19 x32 = some r ∧ E = [(0, pt b1 0), (1, v8), (2, vi x10), (6, vi x16), (17, .bool x32)] ∧ Stp [b1] w0 h0 w29 h28 ∧ Hle h12 h28 ∧ OB w29 h28 b1 T2 [vi x17, vi x18, .bool x19]) ?_ ?_
  ·rintro E w29 ⟨h28, x32, HF, rfl, S31, le30, ob33⟩
   refine Z15 HF rfl (fun HF => ?_) (fun HF => ?_)
   ·refine Zq <| Z01 [0, 1, 2, 6] _ rfl ?_
    exact J62 ⟨h28, HF, rfl, S31, le30, ob33⟩
   refine Z66 <| Z05 <| Z05 <| Z1m <| Z6j rfl ?_
   obtain rfl := Option.some.inj HF
   exact ⟨_, rfl, h28, S31, rfl, ob33⟩
  intro J35
  refine Z0 <| Wm rfl rfl <| Wm rfl rfl ?_
  obtain ⟨A24, c25, rfl, rs26⟩ := RS.form (rs9.mono (le14))
  refine Wv rfl (Z1i rfl Z24) <| Wv rfl (Zdk rfl rfl) <| Wm rfl rfl <| Z27 11 HF rfl (fun HF => ?_) (fun HF => ?_)
  ·refine Wm rfl rfl <| Wv rfl (Zp rfl) <| Wv rfl (Z1 rfl Z6f) <| Wv rfl (Zb rfl Z76 (OB.cell ob20 (j := 2) rfl)) <| Wv rfl (Z30 rfl) <| Wv rfl (Zj rfl rfl) <| Z6 <| Z01 [0, 1, 2, 6, 17] _ rfl ?_
   exact J35 ⟨h12, !x19, HF, rfl, S15, Hle.refl _, ob20⟩
  refine Wp rfl <| Wp rfl <| Wp rfl <| Wp rfl <| Wp rfl <| Wv rfl (Zi rfl rfl) <| Z6 <| Z01 [0, 1, 2, 6, 17] _ rfl ?_
  exact J35 ⟨h12, false, HF, rfl, S15, Hle.refl _, ob20⟩
 exact ⟨h0, 0, x3, x4, x5, HF, rfl, S0, Hle.refl _, ob6⟩
theorem all_ref02_Size_arm : ∀ k j, j ≤ k → Z82 (Zk j).ref02_Size_arm ∧ Z7j (Zk j).ref02_Size_stmt ∧ Z5f (Zk j).ref02_Size_Stmts := by
  intro k
  induction k with
  | zero =>
    intro j hj
    obtain rfl : j = 0 := by omega
    exact ⟨(fun _ _ _ _ _ _ _ => by intro h; cases h), (fun _ _ _ _ _ _ => by intro h; cases h), (fun _ _ _ _ _ _ => by intro h; cases h)⟩
  | succ k ih =>
    intro j hj
    by_cases h : j ≤ k
    · exact ih j h
    · obtain rfl : j = k + 1 := by omega
      exact ⟨s_ref02_Size_arm k ih, s_ref02_Size_stmt k ih, s_ref02_Size_Stmts k ih⟩
theorem ok_ref02_Size_Stmts (k : Nat) : Z5f (Z1c k) := (all_ref02_Size_arm k k (Nat.le_refl _)).2.2
def C_ref02_Measure (φ : (List St) → Option (Int × Int × Bool)) : Prop := ∀ ⦃xs1 : List St⦄ ⦃r : Int × Int × Bool⦄, φ xs1 = some r → ∀ ⦃w0 : World⦄ ⦃h0 : Hp⦄ ⦃v2 : Value⦄, Sub h0 w0 → RS h0 v2 xs1 →
  Calls Tryz.prog 22 #[v2] w0 fun e w1 => ∃ v, e = .returned v ∧ ∃ h1, Stp [] w0 h0 w1 h1 ∧ v = .agg #[.int .i64 r.1, .int .i64 r.2.1, .bool r.2.2]
theorem s_ref02_Measure (k : Nat) : C_ref02_Measure (Z9d k) := by
 intro xs1 r HF w0 h0 v2 hs0 rs3
 have S0 : Stp [] w0 h0 w0 h0 := Stp.refl hs0 _
 refine Z4o (n := 12) Tryz.func22 rfl Tryz.ntmps22 rfl [(0, v2)] rfl <| Zc <| Z0 <| Z19 (zs := [vi 0, vi 0, .bool false]) rfl rfl t_zero_43 rfl S0.sub (fun w4 b5 hb6 s7 ob8 => ?_)
 have g9 : w0.heap.size ≤ b5 := by rw [hb6]; exact S0.size
 have S10 := S0.trans0 s7
 refine Z6 <| Z4 <| Zc <| Z0 <| Wv rfl (Z3b (vs := []) (cs := [vi 0, vi 0, .bool false]) rfl t_places_43 t_zero_43 rfl) <| WL.box (cs := [vi 0, vi 0, .bool false]) rfl rfl rfl rfl S10.sub (fun w11 b12 hb13 s14 ob15 => ?_)
 have ne16 : b5 ≠ b12 := ob8.ne_new hb13
 have g17 : w0.heap.size ≤ b12 := by rw [hb13]; exact S10.size
 have S18 := S10.trans0 s14
 refine Wa rfl rfl <| Z6 <| Z4 <| Zc <| Z0 <| Wm rfl rfl <| Wm rfl rfl ?_
 obtain ⟨r19, hr20, HF⟩ := Z5 HF
 refine Wc rfl (Zd (vs := [pt b12 0, v2, vi 1]) rfl t_ent_44) (ok_ref02_Size_Stmts _ hr20 S18.sub (rs3.mono ((s7.le).trans s14.le)) ob15) ?_
 rintro v21 w22 ⟨h23, s24, rfl, ob25⟩
 have S26 := S18.trans s24 (Zl (.inr g17) Zt)
 refine Z6 <| Z4 <| Zc <| Z0 <| Wm rfl rfl <| Wv rfl (Zp rfl) <| Wv rfl (Z2t (cs := [vi r19.1, vi r19.2.1, .bool r19.2.2]) rfl t_agg_43 t_size_43 (OB.cells ob25 0 rfl)) ?_
 have ob27 := ((ob8.step0 s14).step1 s24 ne16)
 refine Zr (vs := [vi r19.1, vi r19.2.1, .bool r19.2.2]) rfl rfl rfl rfl t_size_43 (Z3 rfl (Z3 rfl (Z3 rfl Zx))) ob27 S26.sub (by simp) (ds := [vi r19.1, vi r19.2.1, .bool r19.2.2]) rfl (fun w28 s29 ob30 => ?_)
 have S31 := S26.trans1 s29 (.inr g9)
 refine Z6 <| Z4 <| Z0b <| Z5k rfl rfl (Z0x (cs := [vi r19.1, vi r19.2.1, .bool r19.2.2]) t_agg_43 t_size_43 (OB.cells ob30 0 rfl)) ?_
 obtain rfl := Option.some.inj HF
 exact ⟨_, rfl, h23, S31, rfl⟩
theorem ok_ref02_Measure (k : Nat) : C_ref02_Measure (Z9d k) := s_ref02_Measure k
def C_ast_within (φ : Int → Int → Int → Option Bool) : Prop := ∀ ⦃x1 : Int⦄ ⦃x2 : Int⦄ ⦃x3 : Int⦄ ⦃r : Bool⦄, φ x1 x2 x3 = some r → ∀ ⦃w0 : World⦄ ⦃h0 : Hp⦄, Sub h0 w0 →
  Calls Tryz.prog 130 #[.int .i64 x1, .int .i64 x2, .int .i64 x3] w0 fun e w1 => ∃ v, e = .returned v ∧ ∃ h1, Stp [] w0 h0 w1 h1 ∧ v = .bool r
theorem s_ast_within (k : Nat) : C_ast_within (Z7a k) := by
 intro x1 x2 x3 r HF w0 h0  hs0 
 have S0 : Stp [] w0 h0 w0 h0 := Stp.refl hs0 _
 refine Z4o (n := 15) Tryz.func130 rfl Tryz.ntmps130 rfl [(0, vi x1), (1, vi x2), (2, vi x3)] rfl <| Zc <| Z0 <| Wa rfl rfl <| Z6 <| Z4 <| Zc <| Z0 <| Wm rfl rfl <| Wm rfl rfl <| Wv rfl (ov_geq rfl rfl) <| Wm rfl rfl <| Z27 10 HF rfl (fun HF => ?_) (fun HF => ?_)
 ·refine Wm rfl rfl <| Wm rfl rfl <| Wv rfl (Zh1 rfl rfl) <| Wv rfl (Zj rfl rfl) <| Wa rfl rfl <| Z6 <| Z4 <| Z0b <| Z07 rfl rfl ?_
  obtain rfl := Option.some.inj HF
  exact ⟨_, rfl, h0, S0, rfl⟩
 refine Wp rfl <| Wp rfl <| Wp rfl <| Wv rfl (Zi rfl rfl) <| Wa rfl rfl <| Z6 <| Z4 <| Z0b <| Z07 rfl rfl ?_
 obtain rfl := Option.some.inj HF
 exact ⟨_, rfl, h0, S0, rfl⟩
theorem Zc7 (k : Nat) : C_ast_within (Z7a k) := s_ast_within k
def C_ast_IsLabel (φ : Int → Option Bool) : Prop := ∀ ⦃x1 : Int⦄ ⦃r : Bool⦄, φ x1 = some r → ∀ ⦃w0 : World⦄ ⦃h0 : Hp⦄, Sub h0 w0 →
  Calls Tryz.prog 131 #[.int .i64 x1] w0 fun e w1 => ∃ v, e = .returned v ∧ ∃ h1, Stp [] w0 h0 w1 h1 ∧ v = .bool r
theorem s_ast_IsLabel (k : Nat) : C_ast_IsLabel (Z85 k) := by
 intro x1 r HF w0 h0  hs0 
 have S0 : Stp [] w0 h0 w0 h0 := Stp.refl hs0 _
 refine Z4o (n := 5) Tryz.func131 rfl Tryz.ntmps131 rfl [(0, vi x1)] rfl <| Zc <| Z0 <| Wa rfl rfl <| Z6 <| Z4 <| Zc <| Z0 <| Wm rfl rfl ?_
 obtain ⟨r2, hr3, HF⟩ := Z5 HF
 refine Wc rfl (Zd (vs := [vi x1, vi (-2147483647), vi 2147483647]) rfl t_ent_130) (Zc7 _ hr3 S0.sub) ?_
 rintro _ w5 ⟨h6, s7, rfl⟩
 have S8 := S0.trans0 s7
 refine Wa rfl rfl <| Z6 <| Z4 <| Z0b <| Z07 rfl rfl ?_
 obtain rfl := Option.some.inj HF
 exact ⟨_, rfl, h6, S8, rfl⟩
theorem Zgs (k : Nat) : C_ast_IsLabel (Z85 k) := s_ast_IsLabel k
def Zh7 (φ : Int → Int → Int → Option (Bool × Int × Int)) : Prop := ∀ ⦃x3 : Int⦄ ⦃x4 : Int⦄ ⦃x6 : Int⦄ ⦃r : Bool × Int × Int⦄, φ x3 x4 x6 = some r → ∀ ⦃w0 : World⦄ ⦃h0 : Hp⦄ ⦃b1 : Nat⦄ ⦃T2 : Nat⦄, Sub h0 w0 → OB w0 h0 b1 T2 [.int .i64 x3, .int .i64 x4] →
  Calls Tryz.prog 128 #[.pointer (some ⟨b1, 0, none⟩), .int .i64 x6] w0 fun e w1 => ∃ v, e = .returned v ∧ ∃ h1, Stp [b1] w0 h0 w1 h1 ∧ v = .bool r.1 ∧ (OB w1 h1 b1 T2 [.int .i64 r.2.1, .int .i64 r.2.2])
theorem s_ast_Counter_Add (k : Nat) : Zh7 (Z4p k) := by
 intro x3 x4 x6 r HF w0 h0 b1 T2 hs0 ob5
 have S0 : Stp [b1] w0 h0 w0 h0 := Stp.refl hs0 _
 have lt7 : b1 < w0.heap.size := OB.lt ob5
 refine Z4o (n := 30) Tryz.func128 rfl Tryz.ntmps128 rfl [(0, pt b1 0), (1, vi x6)] rfl <| Zc <| Z0 <| Wa rfl rfl <| Z6 <| Z4 <| Zc <| Z0 <| Wm rfl rfl <| Wv rfl (Zp rfl) <| Wv rfl (Z1 rfl Zg9) <| Wv rfl (Zb rfl Z04 (OB.cell ob5 (j := 0) rfl)) <| Wv rfl (Z3e rfl rfl) <| Wv rfl (Zp rfl) <| Wv rfl (Z1 rfl Zg9) <| Zr (vs := [vi (IntKind.i64.wrap (x3 + 1))]) rfl rfl rfl rfl Z1s (Z3 rfl Zx) ob5 S0.sub (by simp) (ds := [vi (IntKind.i64.wrap (x3 + 1)), vi x4]) rfl (fun w8 s9 ob10 => ?_)
 have S11 := S0.trans1 s9 (.inl (by simp))
 refine Z6 <| Z4 <| Zc <| Z0 <| Wm rfl rfl <| Wm rfl rfl <| Wv rfl (Zp rfl) <| Wv rfl (Z1 rfl t_field_87_1) <| Wv rfl (Zb rfl Z04 (OB.cell ob10 (j := 1) rfl)) <| Wm rfl rfl <| Wv rfl (ov_max rfl rfl) <| Wv rfl (Zp rfl) <| Wv rfl (Z1 rfl t_field_87_1) <| Zr (vs := [vi (imax x4 x6)]) rfl rfl rfl rfl Z1s (Z3 rfl Zx) ob10 S11.sub (by simp) (ds := [vi (IntKind.i64.wrap (x3 + 1)), vi (imax x4 x6)]) rfl (fun w12 s13 ob14 => ?_)
 have S15 := S11.trans1 s13 (.inl (by simp))
 refine Z6 <| Z4 <| Zc <| Z0 <| Wm rfl rfl <| Wv rfl (Zp rfl) <| Wv rfl (Z1 rfl Zg9) <| Wv rfl (Zb rfl Z04 (OB.cell ob14 (j := 0) rfl)) <| Wv rfl (Zh1 rfl rfl) <| Wm rfl rfl <| Z27 26 HF rfl (fun HF => ?_) (fun HF => ?_)
 ·refine Wm rfl rfl <| Wv rfl (Zh1 rfl rfl) <| Wv rfl (Zj rfl rfl) <| Wa rfl rfl <| Z6 <| Z4 <| Z0b <| Z07 rfl rfl ?_
  obtain rfl := Option.some.inj HF
  exact ⟨_, rfl, h0, S15, rfl, ob14⟩
 refine Wp rfl <| Wp rfl <| Wv rfl (Zi rfl rfl) <| Wa rfl rfl <| Z6 <| Z4 <| Z0b <| Z07 rfl rfl ?_
 obtain rfl := Option.some.inj HF
 exact ⟨_, rfl, h0, S15, rfl, ob14⟩
theorem Zbi (k : Nat) : Zh7 (Z4p k) := s_ast_Counter_Add k
def C_lexis_IsWord (φ : ByteArray → Option Bool) : Prop := ∀ ⦃x1 : ByteArray⦄ ⦃r : Bool⦄, φ x1 = some r → ∀ ⦃w0 : World⦄ ⦃h0 : Hp⦄, Sub h0 w0 →
  Calls Tryz.prog 93 #[.string x1] w0 fun e w1 => ∃ v, e = .returned v ∧ ∃ h1, Stp [] w0 h0 w1 h1 ∧ v = .bool r
theorem s_lexis_IsWord (k : Nat) : C_lexis_IsWord (Z8p k) := by
 intro x1 r HF w0 h0  hs0 
 have S0 : Stp [] w0 h0 w0 h0 := Stp.refl hs0 _
 refine Z4o (n := 95) Tryz.func93 rfl Tryz.ntmps93 rfl [(0, .string x1)] rfl <| Zc <| Z0 <| Wa rfl rfl <| Z6 <| Z4 <| Z09 (fun E w99 => ∃ (h98 : Hp), lexis_IsWord_j2 k  = some r ∧ E = [] ∧ Stp [] w0 h0 w99 h98 ∧ Hle h0 h98) ?_ ?_
 ·rintro E w99 ⟨h98, HF, rfl, S101, le100⟩
  refine Zc <| Z0 <| Wa rfl rfl <| Z6 <| Z4 <| Z0b <| Z07 rfl rfl ?_
  obtain rfl := Option.some.inj HF
  exact ⟨_, rfl, h98, S101, rfl⟩
 intro J102
 refine Zc <| Z0 <| Wm rfl rfl <| Z6 <| Z4 <| Z0r <| Z09 (fun E w92 => ∃ (h91 : Hp) (x95 : Bool), Zh k x95 = some r ∧ E = [(4, .bool x95)] ∧ Stp [] w0 h0 w92 h91 ∧ Hle h0 h91) ?_ ?_
 ·rintro E w92 ⟨h91, x95, HF, rfl, S94, le93⟩
  refine Z15 HF rfl (fun HF => ?_) (fun HF => ?_)
  ·refine Zc <| Z0 <| Wa rfl rfl <| Z6 <| Z4 <| Z0b <| Z0k <| Zv <| Z07 rfl rfl ?_
   obtain rfl := Option.some.inj HF
   exact ⟨_, rfl, h91, S94, rfl⟩
  refine Zq <| Zy <| Z01 [] _ rfl ?_
  exact J102 ⟨h91, HF, rfl, S94, le93⟩
 intro J97
 refine Zc <| Z0 <| Wv rfl (Z0d rfl rfl) <| Wa rfl rfl <| Z6 <| Z4 <| Z15 HF rfl (fun HF => ?_) (fun HF => ?_)
 ·refine Zq <| Z01 [4] _ rfl ?_
  exact J97 ⟨h0, bEq x1 b'98, HF, rfl, S0, Hle.refl _⟩
 refine Zc <| Z0 <| Wv rfl (Z0d rfl rfl) <| Wa rfl rfl <| Z6 <| Z4 <| Z15 HF rfl (fun HF => ?_) (fun HF => ?_)
 ·refine Zq <| Z01 [4] _ rfl ?_
  exact J97 ⟨h0, bEq x1 b'100, HF, rfl, S0, Hle.refl _⟩
 refine Zc <| Z0 <| Wv rfl (Z0d rfl rfl) <| Wa rfl rfl <| Z6 <| Z4 <| Z15 HF rfl (fun HF => ?_) (fun HF => ?_)
 ·refine Zq <| Z01 [4] _ rfl ?_
  exact J97 ⟨h0, bEq x1 b'99, HF, rfl, S0, Hle.refl _⟩
 refine Zc <| Z0 <| Wv rfl (Z0d rfl rfl) <| Wa rfl rfl <| Z6 <| Z4 <| Z15 HF rfl (fun HF => ?_) (fun HF => ?_)
 ·refine Zq <| Z01 [4] _ rfl ?_
  exact J97 ⟨h0, bEq x1 b'101, HF, rfl, S0, Hle.refl _⟩
 refine Zc <| Z0 <| Wv rfl (Z0d rfl rfl) <| Wa rfl rfl <| Z6 <| Z4 <| Z15 HF rfl (fun HF => ?_) (fun HF => ?_)
 ·refine Zq <| Z01 [4] _ rfl ?_
  exact J97 ⟨h0, bEq x1 b'102, HF, rfl, S0, Hle.refl _⟩
 refine Zc <| Z0 <| Wv rfl (Z0d rfl rfl) <| Wa rfl rfl <| Z6 <| Z4 <| Z15 HF rfl (fun HF => ?_) (fun HF => ?_)
 ·refine Zq <| Z01 [4] _ rfl ?_
  exact J97 ⟨h0, bEq x1 b'103, HF, rfl, S0, Hle.refl _⟩
 refine Zc <| Z0 <| Wv rfl (Z0d rfl rfl) <| Wa rfl rfl <| Z6 <| Z4 <| Z15 HF rfl (fun HF => ?_) (fun HF => ?_)
 ·refine Zq <| Z01 [4] _ rfl ?_
  exact J97 ⟨h0, bEq x1 b'104, HF, rfl, S0, Hle.refl _⟩
 refine Zc <| Z0 <| Wv rfl (Z0d rfl rfl) <| Wa rfl rfl <| Z6 <| Z4 <| Z15 HF rfl (fun HF => ?_) (fun HF => ?_)
 ·refine Zq <| Z01 [4] _ rfl ?_
  exact J97 ⟨h0, bEq x1 b'105, HF, rfl, S0, Hle.refl _⟩
 refine Zc <| Z0 <| Wv rfl (Z0d rfl rfl) <| Wa rfl rfl <| Z6 <| Z4 <| Z15 HF rfl (fun HF => ?_) (fun HF => ?_)
 ·refine Zq <| Z01 [4] _ rfl ?_
  exact J97 ⟨h0, bEq x1 b'108, HF, rfl, S0, Hle.refl _⟩
 refine Zc <| Z0 <| Wv rfl (Z0d rfl rfl) <| Wa rfl rfl <| Z6 <| Z4 <| Z15 HF rfl (fun HF => ?_) (fun HF => ?_)
 ·refine Zq <| Z01 [4] _ rfl ?_
  exact J97 ⟨h0, bEq x1 b'107, HF, rfl, S0, Hle.refl _⟩
 refine Zc <| Z0 <| Wv rfl (Z0d rfl rfl) <| Wa rfl rfl <| Z6 <| Z4 <| Z15 HF rfl (fun HF => ?_) (fun HF => ?_)
 ·refine Zq <| Z01 [4] _ rfl ?_
  exact J97 ⟨h0, bEq x1 b'106, HF, rfl, S0, Hle.refl _⟩
 refine Zc <| Z0 <| Wv rfl (Z0d rfl rfl) <| Wa rfl rfl <| Z6 <| Z4 <| Z15 HF rfl (fun HF => ?_) (fun HF => ?_)
 ·refine Zq <| Z01 [4] _ rfl ?_
  exact J97 ⟨h0, bEq x1 b'109, HF, rfl, S0, Hle.refl _⟩
 refine Zc <| Z0 <| Wv rfl (Z0d rfl rfl) <| Wa rfl rfl <| Z6 <| Z4 <| Z15 HF rfl (fun HF => ?_) (fun HF => ?_)
 ·refine Zq <| Z01 [4] _ rfl ?_
  exact J97 ⟨h0, bEq x1 b'0, HF, rfl, S0, Hle.refl _⟩
 refine Zc <| Z0 <| Wv rfl (Z0d rfl rfl) <| Wa rfl rfl <| Z6 <| Z4 <| Z15 HF rfl (fun HF => ?_) (fun HF => ?_)
 ·refine Zq <| Z01 [4] _ rfl ?_
  exact J97 ⟨h0, bEq x1 b'1, HF, rfl, S0, Hle.refl _⟩
 refine Zc <| Z0 <| Wv rfl (Z0d rfl rfl) <| Wa rfl rfl <| Z6 <| Z4 <| Z15 HF rfl (fun HF => ?_) (fun HF => ?_)
 ·refine Zq <| Z01 [4] _ rfl ?_
  exact J97 ⟨h0, bEq x1 b'2, HF, rfl, S0, Hle.refl _⟩
 refine Zc <| Z0 <| Wv rfl (Z0d rfl rfl) <| Wa rfl rfl <| Z6 <| Z4 <| Z15 HF rfl (fun HF => ?_) (fun HF => ?_)
 ·refine Zq <| Z01 [4] _ rfl ?_
  exact J97 ⟨h0, bEq x1 b'3, HF, rfl, S0, Hle.refl _⟩
 refine Zc <| Z0 <| Wv rfl (Z0d rfl rfl) <| Wa rfl rfl <| Z6 <| Z4 <| Z15 HF rfl (fun HF => ?_) (fun HF => ?_)
 ·refine Zq <| Z01 [4] _ rfl ?_
  exact J97 ⟨h0, bEq x1 b'4, HF, rfl, S0, Hle.refl _⟩
 refine Zc <| Z0 <| Wv rfl (Z0d rfl rfl) <| Wa rfl rfl <| Z6 <| Z4 <| Z15 HF rfl (fun HF => ?_) (fun HF => ?_)
 ·refine Zq <| Z01 [4] _ rfl ?_
  exact J97 ⟨h0, bEq x1 b'10, HF, rfl, S0, Hle.refl _⟩
 refine Zc <| Z0 <| Wv rfl (Z0d rfl rfl) <| Wa rfl rfl <| Z6 <| Z4 <| Z15 HF rfl (fun HF => ?_) (fun HF => ?_)
 ·refine Zq <| Z01 [4] _ rfl ?_
  exact J97 ⟨h0, bEq x1 b'9, HF, rfl, S0, Hle.refl _⟩
 refine Zc <| Z0 <| Wv rfl (Z0d rfl rfl) <| Wa rfl rfl <| Z6 <| Z4 <| Z15 HF rfl (fun HF => ?_) (fun HF => ?_)
 ·refine Zq <| Z01 [4] _ rfl ?_
  exact J97 ⟨h0, bEq x1 b'5, HF, rfl, S0, Hle.refl _⟩
 refine Zc <| Z0 <| Wv rfl (Z0d rfl rfl) <| Wa rfl rfl <| Z6 <| Z4 <| Z15 HF rfl (fun HF => ?_) (fun HF => ?_)
 ·refine Zq <| Z01 [4] _ rfl ?_
  exact J97 ⟨h0, bEq x1 b'6, HF, rfl, S0, Hle.refl _⟩
 refine Zc <| Z0 <| Wv rfl (Z0d rfl rfl) <| Wa rfl rfl <| Z6 <| Z4 <| Z15 HF rfl (fun HF => ?_) (fun HF => ?_)
 ·refine Zq <| Z01 [4] _ rfl ?_
  exact J97 ⟨h0, bEq x1 b'7, HF, rfl, S0, Hle.refl _⟩
 refine Zc <| Z0 <| Wv rfl (Z0d rfl rfl) <| Wa rfl rfl <| Z6 <| Z4 <| Z15 HF rfl (fun HF => ?_) (fun HF => ?_)
 ·refine Zq <| Z01 [4] _ rfl ?_
  exact J97 ⟨h0, bEq x1 b'8, HF, rfl, S0, Hle.refl _⟩
 refine Zc <| Z0 <| Wv rfl (Z0d rfl rfl) <| Wa rfl rfl <| Z6 <| Z4 <| Z15 HF rfl (fun HF => ?_) (fun HF => ?_)
 ·refine Zq <| Z01 [4] _ rfl ?_
  exact J97 ⟨h0, bEq x1 b'11, HF, rfl, S0, Hle.refl _⟩
 refine Zc <| Z0 <| Wv rfl (Z0d rfl rfl) <| Wa rfl rfl <| Z6 <| Z4 <| Z15 HF rfl (fun HF => ?_) (fun HF => ?_)
 ·refine Zq <| Z01 [4] _ rfl ?_
  exact J97 ⟨h0, bEq x1 b'12, HF, rfl, S0, Hle.refl _⟩
 refine Zc <| Z0 <| Wv rfl (Z0d rfl rfl) <| Wa rfl rfl <| Z6 <| Z4 <| Z15 HF rfl (fun HF => ?_) (fun HF => ?_)
 ·refine Zq <| Z01 [4] _ rfl ?_
  exact J97 ⟨h0, bEq x1 b'13, HF, rfl, S0, Hle.refl _⟩
 refine Zc <| Z0 <| Wv rfl (Z0d rfl rfl) <| Wa rfl rfl <| Z6 <| Z4 <| Z15 HF rfl (fun HF => ?_) (fun HF => ?_)
 ·refine Zq <| Z01 [4] _ rfl ?_
  exact J97 ⟨h0, bEq x1 b'14, HF, rfl, S0, Hle.refl _⟩
 refine Zc <| Z0 <| Wv rfl (Z0d rfl rfl) <| Wa rfl rfl <| Z6 <| Z4 <| Z15 HF rfl (fun HF => ?_) (fun HF => ?_)
 ·refine Zq <| Z01 [4] _ rfl ?_
  exact J97 ⟨h0, bEq x1 b'18, HF, rfl, S0, Hle.refl _⟩
 refine Zc <| Z0 <| Wv rfl (Z0d rfl rfl) <| Wa rfl rfl <| Z6 <| Z4 <| Z15 HF rfl (fun HF => ?_) (fun HF => ?_)
 ·refine Zq <| Z01 [4] _ rfl ?_
  exact J97 ⟨h0, bEq x1 b'19, HF, rfl, S0, Hle.refl _⟩
 refine Zc <| Z0 <| Wv rfl (Z0d rfl rfl) <| Wa rfl rfl <| Z6 <| Z4 <| Z15 HF rfl (fun HF => ?_) (fun HF => ?_)
 ·refine Zq <| Z01 [4] _ rfl ?_
  exact J97 ⟨h0, bEq x1 b'20, HF, rfl, S0, Hle.refl _⟩
 refine Zc <| Z0 <| Wv rfl (Z0d rfl rfl) <| Wa rfl rfl <| Z6 <| Z4 <| Z15 HF rfl (fun HF => ?_) (fun HF => ?_)
 ·refine Zq <| Z01 [4] _ rfl ?_
  exact J97 ⟨h0, bEq x1 b'15, HF, rfl, S0, Hle.refl _⟩
 refine Zc <| Z0 <| Wv rfl (Z0d rfl rfl) <| Wa rfl rfl <| Z6 <| Z4 <| Z15 HF rfl (fun HF => ?_) (fun HF => ?_)
 ·refine Zq <| Z01 [4] _ rfl ?_
  exact J97 ⟨h0, bEq x1 b'16, HF, rfl, S0, Hle.refl _⟩
 refine Zc <| Z0 <| Wv rfl (Z0d rfl rfl) <| Wa rfl rfl <| Z6 <| Z4 <| Z15 HF rfl (fun HF => ?_) (fun HF => ?_)
 ·refine Zq <| Z01 [4] _ rfl ?_
  exact J97 ⟨h0, bEq x1 b'17, HF, rfl, S0, Hle.refl _⟩
 refine Zc <| Z0 <| Wv rfl (Z0d rfl rfl) <| Wa rfl rfl <| Z6 <| Z4 <| Z15 HF rfl (fun HF => ?_) (fun HF => ?_)
 ·refine Zq <| Z01 [4] _ rfl ?_
  exact J97 ⟨h0, bEq x1 b'21, HF, rfl, S0, Hle.refl _⟩
 refine Zc <| Z0 <| Wv rfl (Z0d rfl rfl) <| Wa rfl rfl <| Z6 <| Z4 <| Z15 HF rfl (fun HF => ?_) (fun HF => ?_)
 ·refine Zq <| Z01 [4] _ rfl ?_
  exact J97 ⟨h0, bEq x1 b'22, HF, rfl, S0, Hle.refl _⟩
 refine Zc <| Z0 <| Wv rfl (Z0d rfl rfl) <| Wa rfl rfl <| Z6 <| Z4 <| Z15 HF rfl (fun HF => ?_) (fun HF => ?_)
 ·refine Zq <| Z01 [4] _ rfl ?_
  exact J97 ⟨h0, bEq x1 b'23, HF, rfl, S0, Hle.refl _⟩
 refine Zc <| Z0 <| Wv rfl (Z0d rfl rfl) <| Wa rfl rfl <| Z6 <| Z4 <| Z15 HF rfl (fun HF => ?_) (fun HF => ?_)
 ·refine Zq <| Z01 [4] _ rfl ?_
  exact J97 ⟨h0, bEq x1 b'24, HF, rfl, S0, Hle.refl _⟩
 refine Zc <| Z0 <| Wv rfl (Z0d rfl rfl) <| Wa rfl rfl <| Z6 <| Z4 <| Z15 HF rfl (fun HF => ?_) (fun HF => ?_)
 ·refine Zq <| Z01 [4] _ rfl ?_
  exact J97 ⟨h0, bEq x1 b'25, HF, rfl, S0, Hle.refl _⟩
 refine Zc <| Z0 <| Wv rfl (Z0d rfl rfl) <| Wa rfl rfl <| Z6 <| Z4 <| Z15 HF rfl (fun HF => ?_) (fun HF => ?_)
 ·refine Zq <| Z01 [4] _ rfl ?_
  exact J97 ⟨h0, bEq x1 b'26, HF, rfl, S0, Hle.refl _⟩
 refine Zc <| Z0 <| Wv rfl (Z0d rfl rfl) <| Wa rfl rfl <| Z6 <| Z4 <| Z15 HF rfl (fun HF => ?_) (fun HF => ?_)
 ·refine Zq <| Z01 [4] _ rfl ?_
  exact J97 ⟨h0, bEq x1 b'27, HF, rfl, S0, Hle.refl _⟩
 refine Zc <| Z0 <| Wv rfl (Z0d rfl rfl) <| Wa rfl rfl <| Z6 <| Z4 <| Z15 HF rfl (fun HF => ?_) (fun HF => ?_)
 ·refine Zq <| Z01 [4] _ rfl ?_
  exact J97 ⟨h0, bEq x1 b'30, HF, rfl, S0, Hle.refl _⟩
 refine Zc <| Z0 <| Wv rfl (Z0d rfl rfl) <| Wa rfl rfl <| Z6 <| Z4 <| Z15 HF rfl (fun HF => ?_) (fun HF => ?_)
 ·refine Zq <| Z01 [4] _ rfl ?_
  exact J97 ⟨h0, bEq x1 b'29, HF, rfl, S0, Hle.refl _⟩
 refine Zc <| Z0 <| Wv rfl (Z0d rfl rfl) <| Wa rfl rfl <| Z6 <| Z4 <| Z15 HF rfl (fun HF => ?_) (fun HF => ?_)
 ·refine Zq <| Z01 [4] _ rfl ?_
  exact J97 ⟨h0, bEq x1 b'28, HF, rfl, S0, Hle.refl _⟩
 refine Zc <| Z0 <| Wv rfl (Z0d rfl rfl) <| Wa rfl rfl <| Z6 <| Z4 <| Z15 HF rfl (fun HF => ?_) (fun HF => ?_)
 ·refine Zq <| Z01 [4] _ rfl ?_
  exact J97 ⟨h0, bEq x1 b'31, HF, rfl, S0, Hle.refl _⟩
 refine Zc <| Z0 <| Wv rfl (Z0d rfl rfl) <| Wa rfl rfl <| Z6 <| Z4 <| Z15 HF rfl (fun HF => ?_) (fun HF => ?_)
 ·refine Zq <| Z01 [4] _ rfl ?_
  exact J97 ⟨h0, bEq x1 b'33, HF, rfl, S0, Hle.refl _⟩
 refine Zc <| Z0 <| Wv rfl (Z0d rfl rfl) <| Wa rfl rfl <| Z6 <| Z4 <| Z15 HF rfl (fun HF => ?_) (fun HF => ?_)
 ·refine Zq <| Z01 [4] _ rfl ?_
  exact J97 ⟨h0, bEq x1 b'32, HF, rfl, S0, Hle.refl _⟩
 refine Zc <| Z0 <| Wv rfl (Z0d rfl rfl) <| Wa rfl rfl <| Z6 <| Z4 <| Z15 HF rfl (fun HF => ?_) (fun HF => ?_)
 ·refine Zq <| Z01 [4] _ rfl ?_
  exact J97 ⟨h0, bEq x1 b'35, HF, rfl, S0, Hle.refl _⟩
 refine Zc <| Z0 <| Wv rfl (Z0d rfl rfl) <| Wa rfl rfl <| Z6 <| Z4 <| Z15 HF rfl (fun HF => ?_) (fun HF => ?_)
 ·refine Zq <| Z01 [4] _ rfl ?_
  exact J97 ⟨h0, bEq x1 b'34, HF, rfl, S0, Hle.refl _⟩
 refine Zc <| Z0 <| Wv rfl (Z0d rfl rfl) <| Wa rfl rfl <| Z6 <| Z4 <| Z15 HF rfl (fun HF => ?_) (fun HF => ?_)
 ·refine Zq <| Z01 [4] _ rfl ?_
  exact J97 ⟨h0, bEq x1 b'36, HF, rfl, S0, Hle.refl _⟩
 refine Zc <| Z0 <| Wv rfl (Z0d rfl rfl) <| Wa rfl rfl <| Z6 <| Z4 <| Z15 HF rfl (fun HF => ?_) (fun HF => ?_)
 ·refine Zq <| Z01 [4] _ rfl ?_
  exact J97 ⟨h0, bEq x1 b'37, HF, rfl, S0, Hle.refl _⟩
 refine Zc <| Z0 <| Wv rfl (Z0d rfl rfl) <| Wa rfl rfl <| Z6 <| Z4 <| Z15 HF rfl (fun HF => ?_) (fun HF => ?_)
 ·refine Zq <| Z01 [4] _ rfl ?_
  exact J97 ⟨h0, bEq x1 b'38, HF, rfl, S0, Hle.refl _⟩
 refine Zc <| Z0 <| Wv rfl (Z0d rfl rfl) <| Wa rfl rfl <| Z6 <| Z4 <| Z15 HF rfl (fun HF => ?_) (fun HF => ?_)
 ·refine Zq <| Z01 [4] _ rfl ?_
  exact J97 ⟨h0, bEq x1 b'41, HF, rfl, S0, Hle.refl _⟩
 refine Zc <| Z0 <| Wv rfl (Z0d rfl rfl) <| Wa rfl rfl <| Z6 <| Z4 <| Z15 HF rfl (fun HF => ?_) (fun HF => ?_)
 ·refine Zq <| Z01 [4] _ rfl ?_
  exact J97 ⟨h0, bEq x1 b'39, HF, rfl, S0, Hle.refl _⟩
 refine Zc <| Z0 <| Wv rfl (Z0d rfl rfl) <| Wa rfl rfl <| Z6 <| Z4 <| Z15 HF rfl (fun HF => ?_) (fun HF => ?_)
 ·refine Zq <| Z01 [4] _ rfl ?_
  exact J97 ⟨h0, bEq x1 b'40, HF, rfl, S0, Hle.refl _⟩
 refine Zc <| Z0 <| Wv rfl (Z0d rfl rfl) <| Wa rfl rfl <| Z6 <| Z4 <| Z15 HF rfl (fun HF => ?_) (fun HF => ?_)
 ·refine Zq <| Z01 [4] _ rfl ?_
  exact J97 ⟨h0, bEq x1 b'42, HF, rfl, S0, Hle.refl _⟩
 refine Zc <| Z0 <| Wv rfl (Z0d rfl rfl) <| Wa rfl rfl <| Z6 <| Z4 <| Z15 HF rfl (fun HF => ?_) (fun HF => ?_)
 ·refine Zq <| Z01 [4] _ rfl ?_
  exact J97 ⟨h0, bEq x1 b'43, HF, rfl, S0, Hle.refl _⟩
 refine Zc <| Z0 <| Wv rfl (Z0d rfl rfl) <| Wa rfl rfl <| Z6 <| Z4 <| Z15 HF rfl (fun HF => ?_) (fun HF => ?_)
 ·refine Zq <| Z01 [4] _ rfl ?_
  exact J97 ⟨h0, bEq x1 b'44, HF, rfl, S0, Hle.refl _⟩
 refine Zc <| Z0 <| Wv rfl (Z0d rfl rfl) <| Wa rfl rfl <| Z6 <| Z4 <| Z15 HF rfl (fun HF => ?_) (fun HF => ?_)
 ·refine Zq <| Z01 [4] _ rfl ?_
  exact J97 ⟨h0, bEq x1 b'46, HF, rfl, S0, Hle.refl _⟩
 refine Zc <| Z0 <| Wv rfl (Z0d rfl rfl) <| Wa rfl rfl <| Z6 <| Z4 <| Z15 HF rfl (fun HF => ?_) (fun HF => ?_)
 ·refine Zq <| Z01 [4] _ rfl ?_
  exact J97 ⟨h0, bEq x1 b'45, HF, rfl, S0, Hle.refl _⟩
 refine Zc <| Z0 <| Wv rfl (Z0d rfl rfl) <| Wa rfl rfl <| Z6 <| Z4 <| Z15 HF rfl (fun HF => ?_) (fun HF => ?_)
 ·refine Zq <| Z01 [4] _ rfl ?_
  exact J97 ⟨h0, bEq x1 b'47, HF, rfl, S0, Hle.refl _⟩
 refine Zc <| Z0 <| Wv rfl (Z0d rfl rfl) <| Wa rfl rfl <| Z6 <| Z4 <| Z15 HF rfl (fun HF => ?_) (fun HF => ?_)
 ·refine Zq <| Z01 [4] _ rfl ?_
  exact J97 ⟨h0, bEq x1 b'48, HF, rfl, S0, Hle.refl _⟩
 refine Zc <| Z0 <| Wv rfl (Z0d rfl rfl) <| Wa rfl rfl <| Z6 <| Z4 <| Z15 HF rfl (fun HF => ?_) (fun HF => ?_)
 ·refine Zq <| Z01 [4] _ rfl ?_
  exact J97 ⟨h0, bEq x1 b'49, HF, rfl, S0, Hle.refl _⟩
 refine Zc <| Z0 <| Wv rfl (Z0d rfl rfl) <| Wa rfl rfl <| Z6 <| Z4 <| Z15 HF rfl (fun HF => ?_) (fun HF => ?_)
 ·refine Zq <| Z01 [4] _ rfl ?_
  exact J97 ⟨h0, bEq x1 b'50, HF, rfl, S0, Hle.refl _⟩
 refine Zc <| Z0 <| Wv rfl (Z0d rfl rfl) <| Wa rfl rfl <| Z6 <| Z4 <| Z15 HF rfl (fun HF => ?_) (fun HF => ?_)
 ·refine Zq <| Z01 [4] _ rfl ?_
  exact J97 ⟨h0, bEq x1 b'51, HF, rfl, S0, Hle.refl _⟩
 refine Zc <| Z0 <| Wv rfl (Z0d rfl rfl) <| Wa rfl rfl <| Z6 <| Z4 <| Z15 HF rfl (fun HF => ?_) (fun HF => ?_)
 ·refine Zq <| Z01 [4] _ rfl ?_
  exact J97 ⟨h0, bEq x1 b'52, HF, rfl, S0, Hle.refl _⟩
 refine Zc <| Z0 <| Wv rfl (Z0d rfl rfl) <| Wa rfl rfl <| Z6 <| Z4 <| Z15 HF rfl (fun HF => ?_) (fun HF => ?_)
 ·refine Zq <| Z01 [4] _ rfl ?_
  exact J97 ⟨h0, bEq x1 b'57, HF, rfl, S0, Hle.refl _⟩
 refine Zc <| Z0 <| Wv rfl (Z0d rfl rfl) <| Wa rfl rfl <| Z6 <| Z4 <| Z15 HF rfl (fun HF => ?_) (fun HF => ?_)
 ·refine Zq <| Z01 [4] _ rfl ?_
  exact J97 ⟨h0, bEq x1 b'54, HF, rfl, S0, Hle.refl _⟩
 refine Zc <| Z0 <| Wv rfl (Z0d rfl rfl) <| Wa rfl rfl <| Z6 <| Z4 <| Z15 HF rfl (fun HF => ?_) (fun HF => ?_)
 ·refine Zq <| Z01 [4] _ rfl ?_
  exact J97 ⟨h0, bEq x1 b'56, HF, rfl, S0, Hle.refl _⟩
 refine Zc <| Z0 <| Wv rfl (Z0d rfl rfl) <| Wa rfl rfl <| Z6 <| Z4 <| Z15 HF rfl (fun HF => ?_) (fun HF => ?_)
 ·refine Zq <| Z01 [4] _ rfl ?_
  exact J97 ⟨h0, bEq x1 b'55, HF, rfl, S0, Hle.refl _⟩
 refine Zc <| Z0 <| Wv rfl (Z0d rfl rfl) <| Wa rfl rfl <| Z6 <| Z4 <| Z15 HF rfl (fun HF => ?_) (fun HF => ?_)
 ·refine Zq <| Z01 [4] _ rfl ?_
  exact J97 ⟨h0, bEq x1 b'53, HF, rfl, S0, Hle.refl _⟩
 refine Zc <| Z0 <| Wv rfl (Z0d rfl rfl) <| Wa rfl rfl <| Z6 <| Z4 <| Z15 HF rfl (fun HF => ?_) (fun HF => ?_)
 ·refine Zq <| Z01 [4] _ rfl ?_
  exact J97 ⟨h0, bEq x1 b'58, HF, rfl, S0, Hle.refl _⟩
 refine Zc <| Z0 <| Wv rfl (Z0d rfl rfl) <| Wa rfl rfl <| Z6 <| Z4 <| Z15 HF rfl (fun HF => ?_) (fun HF => ?_)
 ·refine Zq <| Z01 [4] _ rfl ?_
  exact J97 ⟨h0, bEq x1 b'60, HF, rfl, S0, Hle.refl _⟩
 refine Zc <| Z0 <| Wv rfl (Z0d rfl rfl) <| Wa rfl rfl <| Z6 <| Z4 <| Z15 HF rfl (fun HF => ?_) (fun HF => ?_)
 ·refine Zq <| Z01 [4] _ rfl ?_
  exact J97 ⟨h0, bEq x1 b'59, HF, rfl, S0, Hle.refl _⟩
 refine Zc <| Z0 <| Wv rfl (Z0d rfl rfl) <| Wa rfl rfl <| Z6 <| Z4 <| Z15 HF rfl (fun HF => ?_) (fun HF => ?_)
 ·refine Zq <| Z01 [4] _ rfl ?_
  exact J97 ⟨h0, bEq x1 b'61, HF, rfl, S0, Hle.refl _⟩
 refine Zc <| Z0 <| Wv rfl (Z0d rfl rfl) <| Wa rfl rfl <| Z6 <| Z4 <| Z15 HF rfl (fun HF => ?_) (fun HF => ?_)
 ·refine Zq <| Z01 [4] _ rfl ?_
  exact J97 ⟨h0, bEq x1 b'62, HF, rfl, S0, Hle.refl _⟩
 refine Zc <| Z0 <| Wv rfl (Z0d rfl rfl) <| Wa rfl rfl <| Z6 <| Z4 <| Z15 HF rfl (fun HF => ?_) (fun HF => ?_)
 ·refine Zq <| Z01 [4] _ rfl ?_
  exact J97 ⟨h0, bEq x1 b'65, HF, rfl, S0, Hle.refl _⟩
 refine Zc <| Z0 <| Wv rfl (Z0d rfl rfl) <| Wa rfl rfl <| Z6 <| Z4 <| Z15 HF rfl (fun HF => ?_) (fun HF => ?_)
 ·refine Zq <| Z01 [4] _ rfl ?_
  exact J97 ⟨h0, bEq x1 b'63, HF, rfl, S0, Hle.refl _⟩
 refine Zc <| Z0 <| Wv rfl (Z0d rfl rfl) <| Wa rfl rfl <| Z6 <| Z4 <| Z15 HF rfl (fun HF => ?_) (fun HF => ?_)
 ·refine Zq <| Z01 [4] _ rfl ?_
  exact J97 ⟨h0, bEq x1 b'64, HF, rfl, S0, Hle.refl _⟩
 refine Zc <| Z0 <| Wv rfl (Z0d rfl rfl) <| Wa rfl rfl <| Z6 <| Z4 <| Z15 HF rfl (fun HF => ?_) (fun HF => ?_)
 ·refine Zq <| Z01 [4] _ rfl ?_
  exact J97 ⟨h0, bEq x1 b'66, HF, rfl, S0, Hle.refl _⟩
 refine Zc <| Z0 <| Wv rfl (Z0d rfl rfl) <| Wa rfl rfl <| Z6 <| Z4 <| Z15 HF rfl (fun HF => ?_) (fun HF => ?_)
 ·refine Zq <| Z01 [4] _ rfl ?_
  exact J97 ⟨h0, bEq x1 b'73, HF, rfl, S0, Hle.refl _⟩
 refine Zc <| Z0 <| Wv rfl (Z0d rfl rfl) <| Wa rfl rfl <| Z6 <| Z4 <| Z15 HF rfl (fun HF => ?_) (fun HF => ?_)
 ·refine Zq <| Z01 [4] _ rfl ?_
  exact J97 ⟨h0, bEq x1 b'67, HF, rfl, S0, Hle.refl _⟩
 refine Zc <| Z0 <| Wv rfl (Z0d rfl rfl) <| Wa rfl rfl <| Z6 <| Z4 <| Z15 HF rfl (fun HF => ?_) (fun HF => ?_)
 ·refine Zq <| Z01 [4] _ rfl ?_
  exact J97 ⟨h0, bEq x1 b'68, HF, rfl, S0, Hle.refl _⟩
 refine Zc <| Z0 <| Wv rfl (Z0d rfl rfl) <| Wa rfl rfl <| Z6 <| Z4 <| Z15 HF rfl (fun HF => ?_) (fun HF => ?_)
 ·refine Zq <| Z01 [4] _ rfl ?_
  exact J97 ⟨h0, bEq x1 b'69, HF, rfl, S0, Hle.refl _⟩
 refine Zc <| Z0 <| Wv rfl (Z0d rfl rfl) <| Wa rfl rfl <| Z6 <| Z4 <| Z15 HF rfl (fun HF => ?_) (fun HF => ?_)
 ·refine Zq <| Z01 [4] _ rfl ?_
  exact J97 ⟨h0, bEq x1 b'71, HF, rfl, S0, Hle.refl _⟩
 refine Zc <| Z0 <| Wv rfl (Z0d rfl rfl) <| Wa rfl rfl <| Z6 <| Z4 <| Z15 HF rfl (fun HF => ?_) (fun HF => ?_)
 ·refine Zq <| Z01 [4] _ rfl ?_
  exact J97 ⟨h0, bEq x1 b'70, HF, rfl, S0, Hle.refl _⟩
 refine Zc <| Z0 <| Wv rfl (Z0d rfl rfl) <| Wa rfl rfl <| Z6 <| Z4 <| Z15 HF rfl (fun HF => ?_) (fun HF => ?_)
 ·refine Zq <| Z01 [4] _ rfl ?_
  exact J97 ⟨h0, bEq x1 b'74, HF, rfl, S0, Hle.refl _⟩
 refine Zc <| Z0 <| Wv rfl (Z0d rfl rfl) <| Wa rfl rfl <| Z6 <| Z4 <| Z15 HF rfl (fun HF => ?_) (fun HF => ?_)
 ·refine Zq <| Z01 [4] _ rfl ?_
  exact J97 ⟨h0, bEq x1 b'75, HF, rfl, S0, Hle.refl _⟩
 refine Zc <| Z0 <| Wv rfl (Z0d rfl rfl) <| Wa rfl rfl <| Z6 <| Z4 <| Z15 HF rfl (fun HF => ?_) (fun HF => ?_)
 ·refine Zq <| Z01 [4] _ rfl ?_
  exact J97 ⟨h0, bEq x1 b'76, HF, rfl, S0, Hle.refl _⟩
 refine Zc <| Z0 <| Wv rfl (Z0d rfl rfl) <| Wa rfl rfl <| Z6 <| Z4 <| Z15 HF rfl (fun HF => ?_) (fun HF => ?_)
 ·refine Zq <| Z01 [4] _ rfl ?_
  exact J97 ⟨h0, bEq x1 b'78, HF, rfl, S0, Hle.refl _⟩
 refine Z0 <| Wv rfl (Z0d rfl rfl) <| Wa rfl rfl <| Z6 <| Z01 [4] _ rfl ?_
 exact J97 ⟨h0, bEq x1 b'77, HF, rfl, S0, Hle.refl _⟩
theorem ok_lexis_IsWord (k : Nat) : C_lexis_IsWord (Z8p k) := s_lexis_IsWord k
def C_lexis_isDigit (φ : Int → Option Bool) : Prop := ∀ ⦃x1 : Int⦄ ⦃r : Bool⦄, φ x1 = some r → ∀ ⦃w0 : World⦄ ⦃h0 : Hp⦄, Sub h0 w0 →
  Calls Tryz.prog 72 #[.int .u8 x1] w0 fun e w1 => ∃ v, e = .returned v ∧ ∃ h1, Stp [] w0 h0 w1 h1 ∧ v = .bool r
theorem s_lexis_isDigit (k : Nat) : C_lexis_isDigit (Z58 k) := by
 intro x1 r HF w0 h0  hs0 
 have S0 : Stp [] w0 h0 w0 h0 := Stp.refl hs0 _
 refine Z4o (n := 9) Tryz.func72 rfl Tryz.ntmps72 rfl [(0, .int .u8 x1)] rfl <| Zc <| Z0 <| Wa rfl rfl <| Z6 <| Z4 <| Zc <| Z0 <| Wm rfl rfl <| Wv rfl (ov_geq rfl rfl) <| Wm rfl rfl <| Z27 5 HF rfl (fun HF => ?_) (fun HF => ?_)
 ·refine Wm rfl rfl <| Wv rfl (Zh1 rfl rfl) <| Wv rfl (Zj rfl rfl) <| Wa rfl rfl <| Z6 <| Z4 <| Z0b <| Z07 rfl rfl ?_
  obtain rfl := Option.some.inj HF
  exact ⟨_, rfl, h0, S0, rfl⟩
 refine Wp rfl <| Wp rfl <| Wv rfl (Zi rfl rfl) <| Wa rfl rfl <| Z6 <| Z4 <| Z0b <| Z07 rfl rfl ?_
 obtain rfl := Option.some.inj HF
 exact ⟨_, rfl, h0, S0, rfl⟩
theorem Zai (k : Nat) : C_lexis_isDigit (Z58 k) := s_lexis_isDigit k
def C_lexis_isLetter (φ : Int → Option Bool) : Prop := ∀ ⦃x1 : Int⦄ ⦃r : Bool⦄, φ x1 = some r → ∀ ⦃w0 : World⦄ ⦃h0 : Hp⦄, Sub h0 w0 →
  Calls Tryz.prog 70 #[.int .u8 x1] w0 fun e w1 => ∃ v, e = .returned v ∧ ∃ h1, Stp [] w0 h0 w1 h1 ∧ v = .bool r
theorem s_lexis_isLetter (k : Nat) : C_lexis_isLetter (Z4c k) := by
 intro x1 r HF w0 h0  hs0 
 have S0 : Stp [] w0 h0 w0 h0 := Stp.refl hs0 _
 refine Z4o (n := 9) Tryz.func70 rfl Tryz.ntmps70 rfl [(0, .int .u8 x1)] rfl <| Zc <| Z0 <| Wa rfl rfl <| Z6 <| Z4 <| Zc <| Z0 <| Wm rfl rfl <| Wv rfl (ov_geq rfl rfl) <| Wm rfl rfl <| Z27 5 HF rfl (fun HF => ?_) (fun HF => ?_)
 ·refine Wm rfl rfl <| Wv rfl (Zh1 rfl rfl) <| Wv rfl (Zj rfl rfl) <| Wa rfl rfl <| Z6 <| Z4 <| Z0b <| Z07 rfl rfl ?_
  obtain rfl := Option.some.inj HF
  exact ⟨_, rfl, h0, S0, rfl⟩
 refine Wp rfl <| Wp rfl <| Wv rfl (Zi rfl rfl) <| Wa rfl rfl <| Z6 <| Z4 <| Z0b <| Z07 rfl rfl ?_
 obtain rfl := Option.some.inj HF
 exact ⟨_, rfl, h0, S0, rfl⟩
theorem Z9o (k : Nat) : C_lexis_isLetter (Z4c k) := s_lexis_isLetter k
def C_lexis_isPart (φ : Int → Option Bool) : Prop := ∀ ⦃x1 : Int⦄ ⦃r : Bool⦄, φ x1 = some r → ∀ ⦃w0 : World⦄ ⦃h0 : Hp⦄, Sub h0 w0 →
  Calls Tryz.prog 126 #[.int .u8 x1] w0 fun e w1 => ∃ v, e = .returned v ∧ ∃ h1, Stp [] w0 h0 w1 h1 ∧ v = .bool r
theorem s_lexis_isPart (k : Nat) : C_lexis_isPart (Z8r k) := by
 intro x1 r HF w0 h0  hs0 
 have S0 : Stp [] w0 h0 w0 h0 := Stp.refl hs0 _
 refine Z4o (n := 13) Tryz.func126 rfl Tryz.ntmps126 rfl [(0, .int .u8 x1)] rfl <| Zc <| Z0 <| Wa rfl rfl <| Z6 <| Z4 <| Zc <| Z0 <| Wm rfl rfl ?_
 obtain ⟨r2, hr3, HF⟩ := Z5 HF
 refine Wc rfl (Zd (vs := [.int .u8 x1]) rfl t_ent_70) (Z9o _ hr3 S0.sub) ?_
 rintro _ w5 ⟨h6, s7, rfl⟩
 have S8 := S0.trans0 s7
 refine Wm rfl rfl <| Z27 5 HF rfl (fun HF => ?_) (fun HF => ?_)
 ·refine Wp rfl <| Wp rfl <| Wv rfl (Zj rfl rfl) <| Wm rfl rfl <| Wp rfl <| Wp rfl <| Wv rfl (Zj rfl rfl) <| Wa rfl rfl <| Z6 <| Z4 <| Z0b <| Z07 rfl rfl ?_
  obtain rfl := Option.some.inj HF
  exact ⟨_, rfl, h6, S8, rfl⟩
 refine Wm rfl rfl ?_
 obtain ⟨r10, hr11, HF⟩ := Z5 HF
 refine Wc rfl (Zd (vs := [.int .u8 x1]) rfl t_ent_72) (Zai _ hr11 S8.sub) ?_
 rintro _ w13 ⟨h14, s15, rfl⟩
 have S16 := S8.trans0 s15
 refine Wv rfl (Zi rfl rfl) <| Wm rfl rfl <| Z27 9 HF rfl (fun HF => ?_) (fun HF => ?_)
 ·refine Wp rfl <| Wp rfl <| Wv rfl (Zj rfl rfl) <| Wa rfl rfl <| Z6 <| Z4 <| Z0b <| Z07 rfl rfl ?_
  obtain rfl := Option.some.inj HF
  exact ⟨_, rfl, h14, S16, rfl⟩
 refine Wm rfl rfl <| Wv rfl (Z1g rfl rfl) <| Wv rfl (Zi rfl rfl) <| Wa rfl rfl <| Z6 <| Z4 <| Z0b <| Z07 rfl rfl ?_
 obtain rfl := Option.some.inj HF
 exact ⟨_, rfl, h14, S16, rfl⟩
theorem ok_lexis_isPart (k : Nat) : C_lexis_isPart (Z8r k) := s_lexis_isPart k
def Zeh (φ : ByteArray → Option Bool) : Prop := ∀ ⦃x1 : ByteArray⦄ ⦃r : Bool⦄, φ x1 = some r → ∀ ⦃w0 : World⦄ ⦃h0 : Hp⦄, Sub h0 w0 →
  Calls Tryz.prog 149 #[.string x1] w0 fun e w1 => ∃ v, e = .returned v ∧ ∃ h1, Stp [] w0 h0 w1 h1 ∧ v = .bool r
theorem s_lexis_isRun (k : Nat) (IH : ∀ j, j ≤ k → Zeh (Z3m j).lexis_isRun) : Zeh (m_lexis_isRun k (Z3m k)) := by
 intro x1 r HF w0 h0  hs0 
 have S0 : Stp [] w0 h0 w0 h0 := Stp.refl hs0 _
 refine Z4o (n := 22) Tryz.func149 rfl Tryz.ntmps149 rfl [(0, .string x1)] rfl <| Zc <| Z0 <| Wa rfl rfl <| Z6 <| Z4 <| Zc <| Zc <| Z0 <| Wm rfl rfl <| Wv rfl (Z7w rfl Z00) <| Wm rfl rfl <| Z6 <| Z4 <| Z0r <| Z5v <| Z99 [0, 5, 6] [(0, .string x1), (5, vi (x1.size : Int)), (6, vi 0)] rfl <| Z5u (K := k) (fun j E w3 => ∃ (h2 : Hp) (x6 : Int), (Z3m j).lexis_isRun_l1 x1 x6 = some r ∧ E = [(0, .string x1), (5, vi (x1.size : Int)), (6, vi x6)] ∧ Stp [] w0 h0 w3 h2 ∧ Hle h0 h2) ?_ ?_ (j := k) (Nat.le_refl _) ?_
 ·rintro E w3 ⟨_, _, HF, _⟩; cases HF
 ·rintro j7 hj9 IHL8 E w3 ⟨h2, x6, HF, rfl, S5, le4⟩
  refine Zc <| Z0 <| Wv rfl (Zdk rfl rfl) <| Z6 <| Z4 <| Z09 (fun E w22 => ∃ (h21 : Hp), Zgo j7 (Z3m j7) x1 x6 = some r ∧ E = [(0, .string x1), (5, vi (x1.size : Int)), (6, vi x6)] ∧ Stp [] w0 h0 w22 h21 ∧ Hle h2 h21) ?_ ?_
  ·rintro E w22 ⟨h21, HF, rfl, S24, le23⟩
   refine Zc <| Z0r <| Zc <| Z0 <| Wm rfl rfl <| Wa rfl rfl <| Z6 <| Z4 <| Zc <| Z0 <| Wm rfl rfl <| Wm rfl rfl ?_
   obtain ⟨c25, hc26, HF⟩ := Z5 HF
   refine Wv rfl (Z73 rfl rfl Z00 hc26) ?_
   obtain ⟨r27, hr28, HF⟩ := Z5 HF
   refine Wc rfl (Zd (vs := [.int .u8 c25]) rfl t_ent_126) (ok_lexis_isPart _ hr28 S24.sub) ?_
   rintro _ w30 ⟨h31, s32, rfl⟩
   have S33 := S24.trans0 s32
   refine Wv rfl (Z30 rfl) <| Z6 <| Z4 <| Z15 HF rfl (fun HF => ?_) (fun HF => ?_)
   ·refine Zc <| Z0 <| Wa rfl rfl <| Z6 <| Z4 <| Z0b <| Z0k <| Zv <| Zv <| Z0k <| Zv <| Z07 rfl rfl ?_
    obtain rfl := Option.some.inj HF
    exact ⟨_, rfl, h31, S33, rfl⟩
   refine Zq <| Zy <| Z4 <| Z0 <| Wv rfl (Z3e rfl rfl) <| Wm rfl rfl <| Z6 <| Z2p <| Z99 [0, 5, 6] [(0, .string x1), (5, vi (x1.size : Int)), (6, vi (IntKind.i64.wrap (x6 + 1)))] rfl ?_
   exact IHL8 j7 (Nat.le_refl _) _ _ ⟨h31, IntKind.i64.wrap (x6 + 1), HF, rfl, S33, (le4).trans ((le23).trans s32.le)⟩
  intro J35
  refine Z15 HF rfl (fun HF => ?_) (fun HF => ?_)
  ·refine Zq <| Z01 [0, 5, 6] _ rfl ?_
   exact J35 ⟨h2, HF, rfl, S5, Hle.refl _⟩
  refine Z66 <| Z05 <| Z05 <| Z1m <| Z4 <| Zc <| Z0 <| Wm rfl rfl <| Wv rfl (ov_neqS rfl rfl) <| Wm rfl rfl <| Z27 17 HF rfl (fun HF => ?_) (fun HF => ?_)
  ·refine Wm rfl rfl ?_
   obtain ⟨c12, hc13, HF⟩ := Z5 HF
   refine Wv rfl (Z73 rfl rfl Z00 hc13) ?_
   obtain ⟨r14, hr15, HF⟩ := Z5 HF
   refine Wc rfl (Zd (vs := [.int .u8 c12]) rfl t_ent_70) (Z9o _ hr15 S5.sub) ?_
   rintro _ w17 ⟨h18, s19, rfl⟩
   have S20 := S5.trans0 s19
   refine Wv rfl (Zj rfl rfl) <| Wa rfl rfl <| Z6 <| Z4 <| Z0b <| Z07 rfl rfl ?_
   obtain rfl := Option.some.inj HF
   exact ⟨_, rfl, h18, S20, rfl⟩
  refine Wp rfl <| Wp rfl <| Wp rfl <| Wv rfl (Zi rfl rfl) <| Wa rfl rfl <| Z6 <| Z4 <| Z0b <| Z07 rfl rfl ?_
  obtain rfl := Option.some.inj HF
  exact ⟨_, rfl, h2, S5, rfl⟩
 exact ⟨h0, 0, HF, rfl, S0, Hle.refl _⟩
theorem all_lexis_isRun : ∀ k j, j ≤ k → Zeh (Z3m j).lexis_isRun := by
  intro k
  induction k with
  | zero =>
    intro j hj
    obtain rfl : j = 0 := by omega
    exact (fun _ _ => by intro h; cases h)
  | succ k ih =>
    intro j hj
    by_cases h : j ≤ k
    · exact ih j h
    · obtain rfl : j = k + 1 := by omega
      exact s_lexis_isRun k ih
theorem ok_lexis_isRun (k : Nat) : Zeh (F_lexis_isRun k) := (all_lexis_isRun k k (Nat.le_refl _))
def C_lexis_IsName (φ : ByteArray → Option Bool) : Prop := ∀ ⦃x1 : ByteArray⦄ ⦃r : Bool⦄, φ x1 = some r → ∀ ⦃w0 : World⦄ ⦃h0 : Hp⦄, Sub h0 w0 →
  Calls Tryz.prog 89 #[.string x1] w0 fun e w1 => ∃ v, e = .returned v ∧ ∃ h1, Stp [] w0 h0 w1 h1 ∧ v = .bool r
theorem s_lexis_IsName (k : Nat) : C_lexis_IsName (Z50 k) := by
 intro x1 r HF w0 h0  hs0 
 have S0 : Stp [] w0 h0 w0 h0 := Stp.refl hs0 _
 refine Z4o (n := 15) Tryz.func89 rfl Tryz.ntmps89 rfl [(0, .string x1)] rfl <| Zc <| Z0 <| Wa rfl rfl <| Z6 <| Z4 <| Zc <| Z0 <| Wm rfl rfl ?_
 obtain ⟨r2, hr3, HF⟩ := Z5 HF
 refine Wc rfl (Zd (vs := [.string x1]) rfl t_ent_149) (ok_lexis_isRun _ hr3 S0.sub) ?_
 rintro _ w5 ⟨h6, s7, rfl⟩
 have S8 := S0.trans0 s7
 refine Wm rfl rfl <| Z27 5 HF rfl (fun HF => ?_) (fun HF => ?_)
 ·refine Wm rfl rfl <| Wv rfl (Z7w rfl Z00) <| Wv rfl (Zh1 rfl rfl) <| Wv rfl (Zj rfl rfl) <| Wm rfl rfl <| Z27 10 HF rfl (fun HF => ?_) (fun HF => ?_)
  ·refine Wm rfl rfl ?_
   obtain ⟨r11, hr12, HF⟩ := Z5 HF
   refine Wc rfl (Zd (vs := [.string x1]) rfl t_ent_93) (ok_lexis_IsWord _ hr12 S8.sub) ?_
   rintro _ w14 ⟨h15, s16, rfl⟩
   have S17 := S8.trans0 s16
   refine Wv rfl (Z30 rfl) <| Wv rfl (Zj rfl rfl) <| Wa rfl rfl <| Z6 <| Z4 <| Z0b <| Z07 rfl rfl ?_
   obtain rfl := Option.some.inj HF
   exact ⟨_, rfl, h15, S17, rfl⟩
  refine Wp rfl <| Wp rfl <| Wp rfl <| Wv rfl (Zi rfl rfl) <| Wa rfl rfl <| Z6 <| Z4 <| Z0b <| Z07 rfl rfl ?_
  obtain rfl := Option.some.inj HF
  exact ⟨_, rfl, h6, S8, rfl⟩
 refine Wp rfl <| Wp rfl <| Wp rfl <| Wv rfl (Zi rfl rfl) <| Wm rfl rfl <| Wp rfl <| Wp rfl <| Wp rfl <| Wv rfl (Zi rfl rfl) <| Wa rfl rfl <| Z6 <| Z4 <| Z0b <| Z07 rfl rfl ?_
 obtain rfl := Option.some.inj HF
 exact ⟨_, rfl, h6, S8, rfl⟩
theorem Zfh (k : Nat) : C_lexis_IsName (Z50 k) := s_lexis_IsName k
def C_ast_AreNames_1 (φ : ByteArray → Option Bool) : Prop := ∀ ⦃x1 : ByteArray⦄ ⦃r : Bool⦄, φ x1 = some r → ∀ ⦃w0 : World⦄ ⦃h0 : Hp⦄, Sub h0 w0 →
  Calls Tryz.prog 170 #[.string x1] w0 fun e w1 => ∃ v, e = .returned v ∧ ∃ h1, Stp [] w0 h0 w1 h1 ∧ v = .bool r
theorem s_ast_AreNames_1 (k : Nat) : C_ast_AreNames_1 (Z88 k) := by
 intro x1 r HF w0 h0  hs0 
 have S0 : Stp [] w0 h0 w0 h0 := Stp.refl hs0 _
 refine Z4o (n := 6) Tryz.func170 rfl Tryz.ntmps170 rfl [(0, .string x1)] rfl <| Zc <| Z0 <| Wa rfl rfl <| Z6 <| Z4 <| Zc <| Z0 <| Wm rfl rfl ?_
 obtain ⟨r2, hr3, HF⟩ := Z5 HF
 refine Wc rfl (Zd (vs := [.string x1]) rfl t_ent_89) (Zfh _ hr3 S0.sub) ?_
 rintro _ w5 ⟨h6, s7, rfl⟩
 have S8 := S0.trans0 s7
 refine Wv rfl (Z30 rfl) <| Wa rfl rfl <| Z6 <| Z4 <| Z0b <| Z07 rfl rfl ?_
 obtain rfl := Option.some.inj HF
 exact ⟨_, rfl, h6, S8, rfl⟩
theorem ok_ast_AreNames_1 (k : Nat) : C_ast_AreNames_1 (Z88 k) := s_ast_AreNames_1 k
def Z2z (φ : (List ByteArray) → Option Int) : Prop := ∀ ⦃xs1 : List ByteArray⦄ ⦃r : Int⦄, φ xs1 = some r → ∀ ⦃w0 : World⦄ ⦃h0 : Hp⦄ ⦃v2 : Value⦄, Sub h0 w0 → RS h0 v2 xs1 →
  Calls Tryz.prog 189 #[v2, .func (.func 170) #[] #[]] w0 fun e w1 => ∃ v, e = .returned v ∧ ∃ h1, Stp [] w0 h0 w1 h1 ∧ v = .int .i64 r
theorem Zbk (k : Nat) (IH : ∀ j, j ≤ k → Z2z (Z0o j).slices_IndexFunc_string_string) : Z2z (Z72 k (Z0o k)) := by
 intro xs1 r HF w0 h0 v2 hs0 rs3
 have S0 : Stp [] w0 h0 w0 h0 := Stp.refl hs0 _
 refine Z4o (n := 19) Tryz.func189 rfl Tryz.ntmps189 rfl [(0, v2), (1, .func (.func 170) #[] #[])] rfl <| Zc <| Z0 <| Wa rfl rfl <| Z6 <| Z4 <| Zc <| Zc <| Z0 <| Wm rfl rfl ?_
 obtain ⟨A4, c5, rfl, rs6⟩ := RS.form rs3
 refine Wv rfl (Z1i rfl Z4v) <| Wm rfl rfl <| Z6 <| Z4 <| Z0r <| Z5v <| Z99 [0, 1, 7, 8] [(0, .slice A4 (xs1).length c5), (1, .func (.func 170) #[] #[]), (7, vi (xs1.length : Int)), (8, vi 0)] rfl <| Z5u (K := k) (fun j E w8 => ∃ (h7 : Hp) (x11 : Int), (Z0o j).slices_IndexFunc_string_string_l1 xs1 x11 = some r ∧ E = [(0, .slice A4 (xs1).length c5), (1, .func (.func 170) #[] #[]), (7, vi (xs1.length : Int)), (8, vi x11)] ∧ Stp [] w0 h0 w8 h7 ∧ Hle h0 h7) ?_ ?_ (j := k) (Nat.le_refl _) ?_
 ·rintro E w8 ⟨_, _, HF, _⟩; cases HF
 ·rintro j12 hj14 IHL13 E w8 ⟨h7, x11, HF, rfl, S10, le9⟩
  refine Zc <| Z0 <| Wv rfl (Zdk rfl rfl) <| Z6 <| Z4 <| Z09 (fun E w17 => ∃ (h16 : Hp), Z2u j12 (Z0o j12) xs1 x11 = some r ∧ E = [(0, .slice A4 (xs1).length c5), (1, .func (.func 170) #[] #[]), (7, vi (xs1.length : Int)), (8, vi x11)] ∧ Stp [] w0 h0 w17 h16 ∧ Hle h7 h16) ?_ ?_
  ·rintro E w17 ⟨h16, HF, rfl, S19, le18⟩
   refine Zc <| Z0r <| Zc <| Z0 <| Wm rfl rfl <| Wa rfl rfl <| Z6 <| Z4 <| Zc <| Z0 <| Wm rfl rfl <| Wm rfl rfl <| Wm rfl rfl ?_
   obtain ⟨e20, he21, HF⟩ := Z5 HF
   obtain ⟨b22, o23, rfl, h25, h26, ra24⟩ := RS.atO (rs6.mono ((le9).trans le18)) he21
   obtain ⟨cs27, r28, hc29⟩ := ra24
   obtain rfl := (show cs27 = _ from r28)
   refine Wv rfl (Z1p rfl rfl Z4v t_size_9 h25 h26) <| Wv rfl (Zb rfl Z32 (S19.sub.at_ _ _ _ (hc29 0 _ rfl))) ?_
   obtain ⟨r30, hr31, HF⟩ := Z5 HF
   refine Wc rfl (oc_val (vs := [.string e20]) (caps := []) rfl rfl t_ent_170) (ok_ast_AreNames_1 _ hr31 S19.sub) ?_
   rintro _ w33 ⟨h34, s35, rfl⟩
   have S36 := S19.trans0 s35
   refine Z6 <| Z4 <| Z15 HF rfl (fun HF => ?_) (fun HF => ?_)
   ·refine Zc <| Z0 <| Wm rfl rfl <| Wa rfl rfl <| Z6 <| Z4 <| Z0b <| Z0k <| Zv <| Zv <| Z0k <| Zv <| Z07 rfl rfl ?_
    obtain rfl := Option.some.inj HF
    exact ⟨_, rfl, h34, S36, rfl⟩
   refine Zq <| Zy <| Z4 <| Z0 <| Wv rfl (Z3e rfl rfl) <| Wm rfl rfl <| Z6 <| Z2p <| Z99 [0, 1, 7, 8] [(0, sl b22 o23 (xs1).length c5), (1, .func (.func 170) #[] #[]), (7, vi (xs1.length : Int)), (8, vi (IntKind.i64.wrap (x11 + 1)))] rfl ?_
   exact IHL13 j12 (Nat.le_refl _) _ _ ⟨h34, IntKind.i64.wrap (x11 + 1), HF, rfl, S36, (le9).trans ((le18).trans s35.le)⟩
  intro J38
  refine Z15 HF rfl (fun HF => ?_) (fun HF => ?_)
  ·refine Zq <| Z01 [0, 1, 7, 8] _ rfl ?_
   exact J38 ⟨h7, HF, rfl, S10, Hle.refl _⟩
  refine Z66 <| Z05 <| Z05 <| Z1m <| Z4 <| Zc <| Z0 <| Wa rfl rfl <| Z6 <| Z4 <| Z0b <| Z07 rfl rfl ?_
  obtain rfl := Option.some.inj HF
  exact ⟨_, rfl, h7, S10, rfl⟩
 exact ⟨h0, 0, HF, rfl, S0, Hle.refl _⟩
theorem Zak : ∀ k j, j ≤ k → Z2z (Z0o j).slices_IndexFunc_string_string := by
  intro k
  induction k with
  | zero =>
    intro j hj
    obtain rfl : j = 0 := by omega
    exact (fun _ _ => by intro h; cases h)
  | succ k ih =>
    intro j hj
    by_cases h : j ≤ k
    · exact ih j h
    · obtain rfl : j = k + 1 := by omega
      exact Zbk k ih
theorem Zb4 (k : Nat) : Z2z (Z2y k) := (Zak k k (Nat.le_refl _))
def Z5y (φ : (List ByteArray) → Option Bool) : Prop := ∀ ⦃xs1 : List ByteArray⦄ ⦃r : Bool⦄, φ xs1 = some r → ∀ ⦃w0 : World⦄ ⦃h0 : Hp⦄ ⦃v2 : Value⦄, Sub h0 w0 → RS h0 v2 xs1 →
  Calls Tryz.prog 169 #[v2, .func (.func 170) #[] #[]] w0 fun e w1 => ∃ v, e = .returned v ∧ ∃ h1, Stp [] w0 h0 w1 h1 ∧ v = .bool r
theorem Zaa (k : Nat) : Z5y (Z2m k) := by
 intro xs1 r HF w0 h0 v2 hs0 rs3
 have S0 : Stp [] w0 h0 w0 h0 := Stp.refl hs0 _
 refine Z4o (n := 9) Tryz.func169 rfl Tryz.ntmps169 rfl [(0, v2), (1, .func (.func 170) #[] #[])] rfl <| Zc <| Z0 <| Wa rfl rfl <| Z6 <| Z4 <| Zc <| Z0 <| Wm rfl rfl <| Wm rfl rfl ?_
 obtain ⟨r4, hr5, HF⟩ := Z5 HF
 refine Wc rfl (Zd (vs := [v2, .func (.func 170) #[] #[]]) rfl t_ent_189) (Zb4 _ hr5 S0.sub rs3) ?_
 rintro _ w7 ⟨h8, s9, rfl⟩
 have S10 := S0.trans0 s9
 refine Wv rfl (ov_geq rfl rfl) <| Wa rfl rfl <| Z6 <| Z4 <| Z0b <| Z07 rfl rfl ?_
 obtain rfl := Option.some.inj HF
 exact ⟨_, rfl, h8, S10, rfl⟩
theorem Z9t (k : Nat) : Z5y (Z2m k) := Zaa k
def C_ast_AreNames (φ : (List ByteArray) → Option Bool) : Prop := ∀ ⦃xs1 : List ByteArray⦄ ⦃r : Bool⦄, φ xs1 = some r → ∀ ⦃w0 : World⦄ ⦃h0 : Hp⦄ ⦃v2 : Value⦄, Sub h0 w0 → RS h0 v2 xs1 →
  Calls Tryz.prog 132 #[v2] w0 fun e w1 => ∃ v, e = .returned v ∧ ∃ h1, Stp [] w0 h0 w1 h1 ∧ v = .bool r
theorem s_ast_AreNames (k : Nat) : C_ast_AreNames (Z8t k) := by
 intro xs1 r HF w0 h0 v2 hs0 rs3
 have S0 : Stp [] w0 h0 w0 h0 := Stp.refl hs0 _
 refine Z4o (n := 6) Tryz.func132 rfl Tryz.ntmps132 rfl [(0, v2)] rfl <| Zc <| Z0 <| Wa rfl rfl <| Z6 <| Z4 <| Zc <| Z0 <| Wm rfl rfl ?_
 obtain ⟨r4, hr5, HF⟩ := Z5 HF
 refine Wc rfl (Zd (vs := [v2, .func (.func 170) #[] #[]]) rfl t_ent_169) (Z9t _ hr5 S0.sub rs3) ?_
 rintro _ w7 ⟨h8, s9, rfl⟩
 have S10 := S0.trans0 s9
 refine Wv rfl (Z30 rfl) <| Wa rfl rfl <| Z6 <| Z4 <| Z0b <| Z07 rfl rfl ?_
 obtain rfl := Option.some.inj HF
 exact ⟨_, rfl, h8, S10, rfl⟩
theorem ok_ast_AreNames (k : Nat) : C_ast_AreNames (Z8t k) := s_ast_AreNames k
def C_ast_isNamed (φ : ByteArray → Bool → Option Bool) : Prop := ∀ ⦃x1 : ByteArray⦄ ⦃x2 : Bool⦄ ⦃r : Bool⦄, φ x1 x2 = some r → ∀ ⦃w0 : World⦄ ⦃h0 : Hp⦄, Sub h0 w0 →
  Calls Tryz.prog 129 #[.string x1, .bool x2] w0 fun e w1 => ∃ v, e = .returned v ∧ ∃ h1, Stp [] w0 h0 w1 h1 ∧ v = .bool r
theorem s_ast_isNamed (k : Nat) : C_ast_isNamed (Z8b k) := by
 intro x1 x2 r HF w0 h0  hs0 
 have S0 : Stp [] w0 h0 w0 h0 := Stp.refl hs0 _
 refine Z4o (n := 10) Tryz.func129 rfl Tryz.ntmps129 rfl [(0, .string x1), (1, .bool x2)] rfl <| Zc <| Z0 <| Wa rfl rfl <| Z6 <| Z4 <| Z09 (fun E w12 => ∃ (h11 : Hp), Zgl k x1 = some r ∧ E = [(0, .string x1)] ∧ Stp [] w0 h0 w12 h11 ∧ Hle h0 h11) ?_ ?_
 ·rintro E w12 ⟨h11, HF, rfl, S14, le13⟩
  refine Zc <| Z0 <| Wm rfl rfl <| Wv rfl (Z0d rfl rfl) <| Wa rfl rfl <| Z6 <| Z4 <| Z0b <| Z07 rfl rfl ?_
  obtain rfl := Option.some.inj HF
  exact ⟨_, rfl, h11, S14, rfl⟩
 intro J15
 refine Zc <| Z0 <| Wm rfl rfl <| Z6 <| Z4 <| Z15 HF rfl (fun HF => ?_) (fun HF => ?_)
 ·refine Zc <| Z0 <| Wm rfl rfl ?_
  obtain ⟨r4, hr5, HF⟩ := Z5 HF
  refine Wc rfl (Zd (vs := [.string x1]) rfl t_ent_89) (Zfh _ hr5 S0.sub) ?_
  rintro _ w7 ⟨h8, s9, rfl⟩
  have S10 := S0.trans0 s9
  refine Wa rfl rfl <| Z6 <| Z4 <| Z0b <| Zv <| Z07 rfl rfl ?_
  obtain rfl := Option.some.inj HF
  exact ⟨_, rfl, h8, S10, rfl⟩
 refine Zq <| Z01 [0] _ rfl ?_
 exact J15 ⟨h0, HF, rfl, S0, Hle.refl _⟩
theorem Zg0 (k : Nat) : C_ast_isNamed (Z8b k) := s_ast_isNamed k
def C_ast_IsConst (φ : Int → Int → Option Bool) : Prop := ∀ ⦃x1 : Int⦄ ⦃x2 : Int⦄ ⦃r : Bool⦄, φ x1 x2 = some r → ∀ ⦃w0 : World⦄ ⦃h0 : Hp⦄, Sub h0 w0 →
  Calls Tryz.prog 139 #[.int .i64 x1, .int .i64 x2] w0 fun e w1 => ∃ v, e = .returned v ∧ ∃ h1, Stp [] w0 h0 w1 h1 ∧ v = .bool r
theorem s_ast_IsConst (k : Nat) : C_ast_IsConst (Zc2 k) := by
 intro x1 x2 r HF w0 h0  hs0 
 have S0 : Stp [] w0 h0 w0 h0 := Stp.refl hs0 _
 refine Z4o (n := 15) Tryz.func139 rfl Tryz.ntmps139 rfl [(0, vi x1), (1, vi x2)] rfl <| Zc <| Z0 <| Wa rfl rfl <| Z6 <| Z4 <| Z09 (fun E w27 => ∃ (h26 : Hp), Zg3 k  = some r ∧ E = [] ∧ Stp [] w0 h0 w27 h26 ∧ Hle h0 h26) ?_ ?_
 ·rintro E w27 ⟨h26, HF, rfl, S29, le28⟩
  refine Zc <| Z0 <| Wa rfl rfl <| Z6 <| Z4 <| Z0b <| Z07 rfl rfl ?_
  obtain rfl := Option.some.inj HF
  exact ⟨_, rfl, h26, S29, rfl⟩
 intro J30
 refine Zc <| Z0 <| Wm rfl rfl <| Z6 <| Z4 <| Z0r <| Zc <| Z0 <| Wv rfl (Z1g rfl rfl) <| Wa rfl rfl <| Z6 <| Z4 <| Z15 HF rfl (fun HF => ?_) (fun HF => ?_)
 ·refine Zc <| Z0 <| Wm rfl rfl ?_
  obtain ⟨r4, hr5, HF⟩ := Z5 HF
  refine Wc rfl (Zd (vs := [vi x2, vi 0, vi 1]) rfl t_ent_130) (Zc7 _ hr5 S0.sub) ?_
  rintro _ w7 ⟨h8, s9, rfl⟩
  have S10 := S0.trans0 s9
  refine Wa rfl rfl <| Z6 <| Z4 <| Z0b <| Z0k <| Zv <| Z07 rfl rfl ?_
  obtain rfl := Option.some.inj HF
  exact ⟨_, rfl, h8, S10, rfl⟩
 refine Z09 (fun E w13 => ∃ (h12 : Hp) (x16 : Bool), Zdi k x2 x16 = some r ∧ E = [(1, vi x2), (10, .bool x16)] ∧ Stp [] w0 h0 w13 h12 ∧ Hle h0 h12) ?_ ?_
 ·rintro E w13 ⟨h12, x16, HF, rfl, S15, le14⟩
  refine Z15 HF rfl (fun HF => ?_) (fun HF => ?_)
  ·refine Zc <| Z0 <| Wm rfl rfl ?_
   obtain ⟨r18, hr19, HF⟩ := Z5 HF
   refine Wc rfl (Zd (vs := [vi x2, vi 0, vi 2147483647]) rfl t_ent_130) (Zc7 _ hr19 S15.sub) ?_
   rintro _ w21 ⟨h22, s23, rfl⟩
   have S24 := S15.trans0 s23
   refine Wa rfl rfl <| Z6 <| Z4 <| Z0b <| Z0k <| Zv <| Z07 rfl rfl ?_
   obtain rfl := Option.some.inj HF
   exact ⟨_, rfl, h22, S24, rfl⟩
  refine Zq <| Zy <| Z01 [] _ rfl ?_
  exact J30 ⟨h12, HF, rfl, S15, le14⟩
 intro J25
 refine Zc <| Z0 <| Wv rfl (Z1g rfl rfl) <| Wa rfl rfl <| Z6 <| Z4 <| Z15 HF rfl (fun HF => ?_) (fun HF => ?_)
 ·refine Zq <| Z01 [1, 10] _ rfl ?_
  exact J25 ⟨h0, (x1 : Int) == 2, HF, rfl, S0, Hle.refl _⟩
 refine Z0 <| Wv rfl (Z1g rfl rfl) <| Wa rfl rfl <| Z6 <| Z01 [1, 10] _ rfl ?_
 exact J25 ⟨h0, (x1 : Int) == 3, HF, rfl, S0, Hle.refl _⟩
theorem ok_ast_IsConst (k : Nat) : C_ast_IsConst (Zc2 k) := s_ast_IsConst k
def Z8n (φ : Int → Int → Ex → Int → Option (Bool × Int × Int)) : Prop := ∀ ⦃x3 : Int⦄ ⦃x4 : Int⦄ ⦃x6 : Ex⦄ ⦃x9 : Int⦄ ⦃r : Bool × Int × Int⦄, φ x3 x4 x6 x9 = some r → ∀ ⦃w0 : World⦄ ⦃h0 : Hp⦄ ⦃b1 : Nat⦄ ⦃T2 : Nat⦄ ⦃cs7 : List Value⦄, Sub h0 w0 → Rp.R h0 x6 cs7 → OB w0 h0 b1 T2 [.int .i64 x3, .int .i64 x4] →
  Calls Tryz.prog 80 #[.pointer (some ⟨b1, 0, none⟩), .agg cs7.toArray, .int .i64 x9] w0 fun e w1 => ∃ v, e = .returned v ∧ ∃ h1, Stp [b1] w0 h0 w1 h1 ∧ v = .bool r.1 ∧ (OB w1 h1 b1 T2 [.int .i64 r.2.1, .int .i64 r.2.2])
def Z63 (φ : Int → Int → (List Ex) → Int → Option (Bool × Int × Int)) : Prop := ∀ ⦃x3 : Int⦄ ⦃x4 : Int⦄ ⦃xs6 : List Ex⦄ ⦃x9 : Int⦄ ⦃r : Bool × Int × Int⦄, φ x3 x4 xs6 x9 = some r → ∀ ⦃w0 : World⦄ ⦃h0 : Hp⦄ ⦃b1 : Nat⦄ ⦃T2 : Nat⦄ ⦃v7 : Value⦄, Sub h0 w0 → RS h0 v7 xs6 → OB w0 h0 b1 T2 [.int .i64 x3, .int .i64 x4] →
  Calls Tryz.prog 134 #[.pointer (some ⟨b1, 0, none⟩), v7, .int .i64 x9] w0 fun e w1 => ∃ v, e = .returned v ∧ ∃ h1, Stp [b1] w0 h0 w1 h1 ∧ v = .bool r.1 ∧ (OB w1 h1 b1 T2 [.int .i64 r.2.1, .int .i64 r.2.2])
theorem s_ast_Counter_Expr (k : Nat) (IH : ∀ j, j ≤ k → Z8n (Zz j).ast_Counter_Expr ∧ Z63 (Zz j).ast_Counter_Exprs) : Z8n (Z8k k (Zz k)) := by
 intro x3 x4 x6 x9 r HF w0 h0 b1 T2 cs7 hs0 r8 ob5
 have S0 : Stp [b1] w0 h0 w0 h0 := Stp.refl hs0 _
 have lt10 : b1 < w0.heap.size := OB.lt ob5
 refine Z4o (n := 82) Tryz.func80 rfl Tryz.ntmps80 rfl [(0, pt b1 0), (1, .agg cs7.toArray), (2, vi x9)] rfl <| Zc <| Z0 ?_
 obtain ⟨v11, rfl, rs12⟩ := Zab.1 r8
 refine WL.box (cs := [vi x6.op, vi x6.kind, vi x6.n, .string x6.s, .string x6.f, v11]) rfl rfl rfl rfl S0.sub (fun w13 b14 hb15 s16 ob17 => ?_)
 have ne18 : b1 ≠ b14 := ob5.ne_new hb15
 have g19 : w0.heap.size ≤ b14 := by rw [hb15]; exact S0.size
 have S20 := S0.trans0 s16
 refine Wa rfl rfl <| Z6 <| Z4 <| Z09 (fun E w47 => ∃ (h46 : Hp) (x50 : Int) (x51 : Int), Zay k (Zz k) x6 x9 x50 x51 = some r ∧ E = [(0, pt b1 0), (2, vi x9), (4, pt b14 0)] ∧ Stp [b1] w0 h0 w47 h46 ∧ Hle h0 h46 ∧ OB w47 h46 b1 T2 [vi x50, vi x51] ∧ OB w47 h46 b14 47 [vi x6.op, vi x6.kind, vi x6.n, .string x6.s, .string x6.f, v11]) ?_ ?_
 ·rintro E w47 ⟨h46, x50, x51, HF, rfl, S49, le48, ob52, ob53⟩
  refine Zc <| Z0 <| Wa rfl rfl <| Wa rfl rfl <| Wa rfl rfl <| Z6 <| Z4 <| Z09 (fun E w96 => ∃ (h95 : Hp) (x99 : Bool) (x100 : Bool) (x101 : Int), Z2s k (Zz k) x6 x9 x50 x51 x99 x100 x101 = some r ∧ E = [(0, pt b1 0), (2, vi x9), (4, pt b14 0), (7, .bool x99), (8, .bool x100), (9, vi x101)] ∧ Stp [b1] w0 h0 w96 h95 ∧ Hle h46 h95 ∧ OB w96 h95 b1 T2 [vi x50, vi x51] ∧ OB w96 h95 b14 47 [vi x6.op, vi x6.kind, vi x6.n, .string x6.s, .string x6.f, v11]) ?_ ?_
  ·rintro E w96 ⟨h95, x99, x100, x101, HF, rfl, S98, le97, ob102, ob103⟩
   refine Zc <| Z0 <| Wv rfl (Z1 rfl Zgj) <| Wv rfl (Zb rfl Z32 (OB.cell ob103 (j := 3) rfl)) <| Wm rfl rfl ?_
   obtain ⟨r104, hr105, HF⟩ := Z5 HF
   refine Wc rfl (Zd (vs := [.string x6.s, .bool x99]) rfl t_ent_129) (Zg0 _ hr105 S98.sub) ?_
   rintro _ w107 ⟨h108, s109, rfl⟩
   have S110 := S98.trans0 s109
   refine Wm rfl rfl <| Z27 61 HF rfl (fun HF => ?_) (fun HF => ?_)
   ·refine Wv rfl (Z1 rfl Zdz) ?_
    have ob112 := (ob103.step0 s109)
    refine Wv rfl (Zb rfl Z32 (OB.cell ob112 (j := 4) rfl)) <| Wm rfl rfl ?_
    obtain ⟨r113, hr114, HF⟩ := Z5 HF
    refine Wc rfl (Zd (vs := [.string x6.f, .bool x100]) rfl t_ent_129) (Zg0 _ hr114 S110.sub) ?_
    rintro _ w116 ⟨h117, s118, rfl⟩
    have S119 := S110.trans0 s118
    refine Wv rfl (Zj rfl rfl) <| Wm rfl rfl <| Z27 67 HF rfl (fun HF => ?_) (fun HF => ?_)
    ·refine Wv rfl (Z1 rfl Z5i) ?_
     have ob121 := (ob112.step0 s118)
     refine Wv rfl (Zb rfl Z31 (OB.cell ob121 (j := 5) rfl)) ?_
     obtain ⟨A122, c123, rfl, rs124⟩ := RS.form (rs12.mono ((s16.le).trans ((le48).trans ((le97).trans ((s109.le).trans s118.le)))))
     refine Wv rfl (Z1i rfl Z0v) <| Wm rfl rfl <| Wv rfl (Z1g rfl rfl) <| Wv rfl (Zj rfl rfl) <| Wm rfl rfl <| Z27 74 HF rfl (fun HF => ?_) (fun HF => ?_)
     ·refine Wm rfl rfl <| Wv rfl (Z1 rfl Z5i) <| Wv rfl (Zb rfl Z31 (OB.cell ob121 (j := 5) rfl)) <| Wm rfl rfl <| Wv rfl (Z3e rfl rfl) ?_
      have ob126 := ((ob102.step0 s109).step0 s118)
      obtain ⟨r127, hr128, HF⟩ := Z5 HF
      refine Wc rfl (Zd (vs := [pt b1 0, .slice A122 (x6.args).length c123, vi (IntKind.i64.wrap (x9 + 1))]) rfl t_ent_134) ((IH _ (Nat.le_refl _)).2 hr128 S119.sub rs124 ob126) ?_
      rintro _ w130 ⟨h131, s132, rfl, ob133⟩
      have S134 := S119.trans s132 (Zl (.inl (by simp)) Zt)
      refine Wv rfl (Zj rfl rfl) <| Wa rfl rfl <| Z6 <| Z4 <| Z0b <| Z07 rfl rfl ?_
      obtain rfl := Option.some.inj HF
      exact ⟨_, rfl, h131, S134, rfl, ob133⟩
     refine Wp rfl <| Wp rfl <| Wp rfl <| Wp rfl <| Wp rfl <| Wp rfl <| Wv rfl (Zi rfl rfl) <| Wa rfl rfl <| Z6 <| Z4 <| Z0b ?_
     have ob135 := ((ob102.step0 s109).step0 s118)
     refine Z07 rfl rfl ?_
     obtain rfl := Option.some.inj HF
     exact ⟨_, rfl, h117, S119, rfl, ob135⟩
    refine Wp rfl <| Wp rfl <| Wp rfl <| Wp rfl <| Wp rfl <| Wv rfl (Zi rfl rfl) <| Wm rfl rfl <| Wp rfl <| Wp rfl <| Wp rfl <| Wp rfl <| Wp rfl <| Wp rfl <| Wv rfl (Zi rfl rfl) <| Wa rfl rfl <| Z6 <| Z4 <| Z0b ?_
    have ob136 := ((ob102.step0 s109).step0 s118)
    refine Z07 rfl rfl ?_
    obtain rfl := Option.some.inj HF
    exact ⟨_, rfl, h117, S119, rfl, ob136⟩
   refine Wp rfl <| Wp rfl <| Wp rfl <| Wp rfl <| Wv rfl (Zi rfl rfl) <| Wm rfl rfl <| Wp rfl <| Wp rfl <| Wp rfl <| Wp rfl <| Wp rfl <| Wv rfl (Zi rfl rfl) <| Wm rfl rfl <| Wp rfl <| Wp rfl <| Wp rfl <| Wp rfl <| Wp rfl <| Wp rfl <| Wv rfl (Zi rfl rfl) <| Wa rfl rfl <| Z6 <| Z4 <| Z0b ?_
   have ob137 := (ob102.step0 s109)
   refine Z07 rfl rfl ?_
   obtain rfl := Option.some.inj HF
   exact ⟨_, rfl, h108, S110, rfl, ob137⟩
  intro J138
  refine Zc <| Z0 <| Wv rfl (Z1 rfl Z34) <| Wv rfl (Zb rfl Z04 (OB.cell ob53 (j := 0) rfl)) <| Z6 <| Z4 <| Z0r <| Zc <| Z0 <| Wv rfl (Z1g rfl rfl) <| Wa rfl rfl <| Z6 <| Z4 <| Z15 HF rfl (fun HF => ?_) (fun HF => ?_)
  ·refine Zc <| Z0 <| Wa rfl rfl <| Z6 <| Z4 <| Zc <| Z0 <| Wv rfl (Z1 rfl Zbp) <| Wv rfl (Zb rfl Z04 (OB.cell ob53 (j := 1) rfl)) <| Wv rfl (Z1 rfl Zbm) <| Wv rfl (Zb rfl Z04 (OB.cell ob53 (j := 2) rfl)) ?_
   obtain ⟨r55, hr56, HF⟩ := Z5 HF
   refine Wc rfl (Zd (vs := [vi x6.kind, vi x6.n]) rfl t_ent_139) (ok_ast_IsConst _ hr56 S49.sub) ?_
   rintro _ w58 ⟨h59, s60, rfl⟩
   have S61 := S49.trans0 s60
   refine Wv rfl (Z30 rfl) <| Z6 <| Z4 <| Z15 HF rfl (fun HF => ?_) (fun HF => ?_)
   ·refine Zc <| Z0 <| Wa rfl rfl <| Z6 <| Z4 <| Z0b <| Z0k <| Zv ?_
    have ob63 := (ob52.step0 s60)
    refine Z07 rfl rfl ?_
    obtain rfl := Option.some.inj HF
    exact ⟨_, rfl, h59, S61, rfl, ob63⟩
   refine Zq <| Zy ?_
   have ob139 := (ob52.step0 s60)
   have ob140 := (ob53.step0 s60)
   refine Z01 [0, 2, 4, 7, 8, 9] _ rfl ?_
   exact J138 ⟨h59, false, false, 0, HF, rfl, S61, s60.le, ob139, ob140⟩
  refine Zc <| Z0 <| Wv rfl (Z1g rfl rfl) <| Wa rfl rfl <| Z6 <| Z4 <| Z15 HF rfl (fun HF => ?_) (fun HF => ?_)
  ·refine Z0 <| Wa rfl rfl <| Wa rfl rfl <| Z6 <| Zy <| Z01 [0, 2, 4, 7, 8, 9] _ rfl ?_
   exact J138 ⟨h46, true, false, 0, HF, rfl, S49, Hle.refl _, ob52, ob53⟩
  refine Zc <| Z0 <| Wv rfl (Z1g rfl rfl) <| Wa rfl rfl <| Z6 <| Z4 <| Z15 HF rfl (fun HF => ?_) (fun HF => ?_)
  ·refine Z0 <| Wa rfl rfl <| Wa rfl rfl <| Wa rfl rfl <| Z6 <| Zy <| Z01 [0, 2, 4, 7, 8, 9] _ rfl ?_
   exact J138 ⟨h46, true, true, 0, HF, rfl, S49, Hle.refl _, ob52, ob53⟩
  refine Zc <| Z0 <| Wv rfl (Z1g rfl rfl) <| Wa rfl rfl <| Z6 <| Z4 <| Z15 HF rfl (fun HF => ?_) (fun HF => ?_)
  ·refine Z0 <| Wa rfl rfl <| Wa rfl rfl <| Z6 <| Zy <| Z01 [0, 2, 4, 7, 8, 9] _ rfl ?_
   exact J138 ⟨h46, true, false, 1, HF, rfl, S49, Hle.refl _, ob52, ob53⟩
  refine Zc <| Z0 <| Wv rfl (Z1g rfl rfl) <| Wa rfl rfl <| Z6 <| Z4 <| Z15 HF rfl (fun HF => ?_) (fun HF => ?_)
  ·obtain ⟨A68, c69, rfl, rs70⟩ := RS.form (rs12.mono ((s16.le).trans le48))
   refine Z51 (m := 4) [(0, pt b1 0), (2, vi x9), (4, pt b14 0), (8, .bool false), (9, vi 2)] [0, 2, 4, 8, 9] rfl (fun i v w h => match i with | 0 => v = pt b14 5 | 1 => v = .slice A68 (x6.args).length c69 | 2 => v = vi (x6.args.length : Int) | 3 => v = .bool true | _ => True) Z6h S49.sub rfl rfl rfl rfl rfl ?_ ?_ ?_
   ·intro i v w h w2 h2 hΦ hst
    match i, hΦ with
    | 0, hΦ | 1, hΦ | 2, hΦ | 3, hΦ => exact hΦ
    | i + 4, _ => exact trivial
   ·refine ⟨?_, ?_, ?_, ?_, trivial⟩
    ·intro a w71 h72 s73 hat hF
     exact Za hat rfl (Z1 rfl Z5i) s73.sub (by exact rfl)
    ·intro a w71 h72 s73 hat hF
     have ob74 := (ob53.step0 s73)
     exact Za (Z7 hat (hF 0 51 rfl rfl)) rfl (Zb rfl Z31 (OB.cell ob74 (j := 5) rfl)) s73.sub (by exact rfl)
    ·intro a w71 h72 s73 hat hF
     exact Za (Z7 hat (hF 1 52 rfl rfl)) rfl (Z1i rfl Z0v) s73.sub (by exact rfl)
    intro a w71 h72 s73 hat hF
    exact Za hat rfl (ov_assign rfl) s73.sub (by exact rfl)
   intro a w71 h72 s73 hat hF
   obtain hv0 := hF 0 51 (by decide) rfl
   obtain hv1 := hF 1 52 (by decide) rfl
   obtain hv2 := hF 2 53 (by decide) rfl
   obtain hv3 := hF 3 7 (by decide) rfl
   refine Zdh [(7, .bool true), (53, vi (x6.args.length : Int)), (52, .slice A68 (x6.args).length c69), (51, pt b14 5), (0, pt b1 0), (2, vi x9), (4, pt b14 0), (8, .bool false), (9, vi 2)] (Z7 (Z7 (Z7 (Z7 hat hv0) hv1) hv2) hv3) ?_
   have S75 := S49.trans0 s73
   refine Wa rfl rfl <| Z6 <| Zy ?_
   have ob141 := (ob52.step0 s73)
   have ob142 := (ob53.step0 s73)
   refine Z01 [0, 2, 4, 7, 8, 9] _ rfl ?_
   exact J138 ⟨h72, true, false, (x6.args.length : Int), HF, rfl, S75, s73.le, ob141, ob142⟩
  refine Z09 (fun E w78 => ∃ (h77 : Hp) (x81 : Bool), Z80 k (Zz k) x6 x9 x50 x51 x81 = some r ∧ E = [(0, pt b1 0), (2, vi x9), (4, pt b14 0), (7, .bool false), (8, .bool false), (9, vi 2), (54, .bool x81)] ∧ Stp [b1] w0 h0 w78 h77 ∧ Hle h46 h77 ∧ OB w78 h77 b1 T2 [vi x50, vi x51] ∧ OB w78 h77 b14 47 [vi x6.op, vi x6.kind, vi x6.n, .string x6.s, .string x6.f, v11]) ?_ ?_
  ·rintro E w78 ⟨h77, x81, HF, rfl, S80, le79, ob82, ob83⟩
   refine Z15 HF rfl (fun HF => ?_) (fun HF => ?_)
   ·refine Z0 <| Wa rfl rfl <| Z6 <| Zy <| Z01 [0, 2, 4, 7, 8, 9] _ rfl ?_
    exact J138 ⟨h77, false, false, 1, HF, rfl, S80, le79, ob82, ob83⟩
   refine Zc <| Z0 <| Wv rfl (Z1 rfl Z34) <| Wv rfl (Zb rfl Z04 (OB.cell ob83 (j := 0) rfl)) ?_
   obtain ⟨r85, hr86, HF⟩ := Z5 HF
   refine Wc rfl (Zd (vs := [vi x6.op, vi 8, vi 21]) rfl t_ent_130) (Zc7 _ hr86 S80.sub) ?_
   rintro _ w88 ⟨h89, s90, rfl⟩
   have S91 := S80.trans0 s90
   refine Wv rfl (Z30 rfl) <| Z6 <| Z4 <| Z15 HF rfl (fun HF => ?_) (fun HF => ?_)
   ·refine Zc <| Z0 <| Wa rfl rfl <| Z6 <| Z4 <| Z0b <| Z0k <| Zv ?_
    have ob93 := (ob82.step0 s90)
    refine Z07 rfl rfl ?_
    obtain rfl := Option.some.inj HF
    exact ⟨_, rfl, h89, S91, rfl, ob93⟩
   refine Zq <| Zy ?_
   have ob143 := (ob82.step0 s90)
   have ob144 := (ob83.step0 s90)
   refine Z01 [0, 2, 4, 7, 8, 9] _ rfl ?_
   exact J138 ⟨h89, false, false, 2, HF, rfl, S91, (le79).trans s90.le, ob143, ob144⟩
  intro J94
  refine Zc <| Z0 <| Wv rfl (Z1g rfl rfl) <| Wa rfl rfl <| Z6 <| Z4 <| Z15 HF rfl (fun HF => ?_) (fun HF => ?_)
  ·refine Zq <| Z01 [0, 2, 4, 7, 8, 9, 54] _ rfl ?_
   exact J94 ⟨h46, (x6.op : Int) == 6, HF, rfl, S49, Hle.refl _, ob52, ob53⟩
  refine Z0 <| Wv rfl (Z1g rfl rfl) <| Wa rfl rfl <| Z6 <| Z01 [0, 2, 4, 7, 8, 9, 54] _ rfl ?_
  exact J94 ⟨h46, (x6.op : Int) == 7, HF, rfl, S49, Hle.refl _, ob52, ob53⟩
 intro J145
 refine Z09 (fun E w35 => ∃ (h34 : Hp) (x38 : Bool) (x39 : Int) (x40 : Int), Z4g k (Zz k) x6 x9 x38 x39 x40 = some r ∧ E = [(0, pt b1 0), (2, vi x9), (4, pt b14 0), (28, .bool x38)] ∧ Stp [b1] w0 h0 w35 h34 ∧ Hle h0 h34 ∧ OB w35 h34 b1 T2 [vi x39, vi x40] ∧ OB w35 h34 b14 47 [vi x6.op, vi x6.kind, vi x6.n, .string x6.s, .string x6.f, v11]) ?_ ?_
 ·rintro E w35 ⟨h34, x38, x39, x40, HF, rfl, S37, le36, ob41, ob42⟩
  refine Z15 HF rfl (fun HF => ?_) (fun HF => ?_)
  ·refine Zc <| Z0 <| Wa rfl rfl <| Z6 <| Z4 <| Z0b <| Zv <| Z07 rfl rfl ?_
   obtain rfl := Option.some.inj HF
   exact ⟨_, rfl, h34, S37, rfl, ob41⟩
  refine Zq <| Z01 [0, 2, 4] _ rfl ?_
  exact J145 ⟨h34, x39, x40, HF, rfl, S37, le36, ob41, ob42⟩
 intro J44
 refine Z0 <| Wm rfl rfl <| Wm rfl rfl ?_
 have ob21 := (ob5.step0 s16)
 obtain ⟨r22, hr23, HF⟩ := Z5 HF
 refine Wc rfl (Zd (vs := [pt b1 0, vi x9]) rfl t_ent_128) (Zbi _ hr23 S20.sub ob21) ?_
 rintro _ w25 ⟨h26, s27, rfl, ob28⟩
 have S29 := S20.trans s27 (Zl (.inl (by simp)) Zt)
 refine Wv rfl (Z30 rfl) <| Wm rfl rfl <| Z27 14 HF rfl (fun HF => ?_) (fun HF => ?_)
 ·refine Wp rfl <| Wp rfl <| Wp rfl <| Wp rfl <| Wp rfl <| Wp rfl <| Wp rfl <| Wp rfl <| Wp rfl <| Wp rfl <| Wp rfl <| Wp rfl <| Wp rfl <| Wv rfl (Zj rfl rfl) <| Z6 ?_
  have ob45 := (ob17.step1 s27 (Ne.symm ne18))
  refine Z01 [0, 2, 4, 28] _ rfl ?_
  exact J44 ⟨h26, true, r22.2.1, r22.2.2, HF, rfl, S29, s27.le, ob28, ob45⟩
 refine Wv rfl (Z1 rfl Z34) ?_
 have ob31 := (ob17.step1 s27 (Ne.symm ne18))
 refine Wv rfl (Zb rfl Z04 (OB.cell ob31 (j := 0) rfl)) <| Wv rfl (Zca rfl rfl) <| Wm rfl rfl <| Z27 18 HF rfl (fun HF => ?_) (fun HF => ?_)
 ·refine Wv rfl (Z1 rfl Zbp) <| Wv rfl (Zb rfl Z04 (OB.cell ob31 (j := 1) rfl)) <| Wv rfl (Zca rfl rfl) <| Wm rfl rfl <| Z27 22 HF rfl (fun HF => ?_) (fun HF => ?_)
  ·refine Wp rfl <| Wp rfl <| Wp rfl <| Wv rfl (Zj rfl rfl) <| Wv rfl (Zj rfl rfl) <| Wv rfl (Zi rfl rfl) <| Z6 <| Z01 [0, 2, 4, 28] _ rfl ?_
   exact J44 ⟨h26, true, r22.2.1, r22.2.2, HF, rfl, S29, s27.le, ob28, ob31⟩
  refine Wv rfl (Z1 rfl Zbm) <| Wv rfl (Zb rfl Z04 (OB.cell ob31 (j := 2) rfl)) <| Wv rfl (Zca rfl rfl) <| Wv rfl (Zi rfl rfl) <| Wv rfl (Zj rfl rfl) <| Wv rfl (Zi rfl rfl) <| Z6 <| Z01 [0, 2, 4, 28] _ rfl ?_
  exact J44 ⟨h26, (x6.n : Int) != 0, r22.2.1, r22.2.2, HF, rfl, S29, s27.le, ob28, ob31⟩
 refine Wp rfl <| Wp rfl <| Wp rfl <| Wp rfl <| Wp rfl <| Wp rfl <| Wp rfl <| Wp rfl <| Wv rfl (Zi rfl rfl) <| Wv rfl (Zi rfl rfl) <| Z6 <| Z01 [0, 2, 4, 28] _ rfl ?_
 exact J44 ⟨h26, false, r22.2.1, r22.2.2, HF, rfl, S29, s27.le, ob28, ob31⟩
theorem s_ast_Counter_Exprs (k : Nat) (IH : ∀ j, j ≤ k → Z8n (Zz j).ast_Counter_Expr ∧ Z63 (Zz j).ast_Counter_Exprs) : Z63 (Zeo k (Zz k)) := by
 intro x3 x4 xs6 x9 r HF w0 h0 b1 T2 v7 hs0 rs8 ob5
 have S0 : Stp [b1] w0 h0 w0 h0 := Stp.refl hs0 _
 have lt10 : b1 < w0.heap.size := OB.lt ob5
 refine Z4o (n := 21) Tryz.func134 rfl Tryz.ntmps134 rfl [(0, pt b1 0), (1, v7), (2, vi x9)] rfl <| Zc <| Z0 <| Wa rfl rfl <| Z6 <| Z4 <| Zc <| Zc <| Z0 <| Wm rfl rfl ?_
 obtain ⟨A11, c12, rfl, rs13⟩ := RS.form rs8
 refine Wv rfl (Z1i rfl Z0v) <| Wm rfl rfl <| Z6 <| Z4 <| Z0r <| Z5v <| Z99 [0, 2, 9, 10, 11] [(0, pt b1 0), (2, vi x9), (9, .slice A11 (xs6).length c12), (10, vi (xs6.length : Int)), (11, vi 0)] rfl <| Z5u (K := k) (fun j E w15 => ∃ (h14 : Hp) (x18 : Int) (x19 : Int) (x20 : Int), (Zz j).ast_Counter_Exprs_l1 xs6 x9 x18 x19 x20 = some r ∧ E = [(0, pt b1 0), (2, vi x9), (9, .slice A11 (xs6).length c12), (10, vi (xs6.length : Int)), (11, vi x18)] ∧ Stp [b1] w0 h0 w15 h14 ∧ Hle h0 h14 ∧ OB w15 h14 b1 T2 [vi x19, vi x20]) ?_ ?_ (j := k) (Nat.le_refl _) ?_
 ·rintro E w15 ⟨_, _, _, _, HF, _⟩; cases HF
 ·rintro j22 hj24 IHL23 E w15 ⟨h14, x18, x19, x20, HF, rfl, S17, le16, ob21⟩
  refine Zc <| Z0 <| Wv rfl (Zdk rfl rfl) <| Z6 <| Z4 <| Z09 (fun E w27 => ∃ (h26 : Hp), Z7h j22 (Zz j22) xs6 x9 x18 x19 x20 = some r ∧ E = [(0, pt b1 0), (2, vi x9), (9, .slice A11 (xs6).length c12), (10, vi (xs6.length : Int)), (11, vi x18)] ∧ Stp [b1] w0 h0 w27 h26 ∧ Hle h14 h26 ∧ OB w27 h26 b1 T2 [vi x19, vi x20]) ?_ ?_
  ·rintro E w27 ⟨h26, HF, rfl, S29, le28, ob30⟩
   refine Zc <| Z0r <| Zc <| Z0 ?_
   obtain ⟨e31, he32, HF⟩ := Z5 HF
   obtain ⟨b33, o34, rfl, h36, h37, ra35⟩ := RS.atO (rs13.mono ((le16).trans le28)) he32
   obtain ⟨cs38, r39, hc40⟩ := ra35
   refine Wv rfl (Z1p rfl rfl Z0v Z0l h36 h37) <| Wv rfl (Z2t (cs := cs38) rfl Z54 (by rw [Rp.len r39]; exact Z0l) (fun j v hv => S29.sub.at_ _ _ _ (hc40 j v hv))) <| Z19 (zs := [vi 0, vi 0, vi 0, .string Z1e, .string Z1e, .slice none 0 0]) rfl rfl Z1w rfl S29.sub (fun w41 b42 hb43 s44 ob45 => ?_)
   have ne46 : b1 ≠ b42 := ob30.ne_new hb43
   have g47 : w0.heap.size ≤ b42 := by rw [hb43]; exact S29.size
   have S48 := S29.trans0 s44
   obtain ⟨v49, rfl, rs50⟩ := Zab.1 (Rp.mono (s44.le) r39)
   refine Zr (vs := [vi e31.op, vi e31.kind, vi e31.n, .string e31.s, .string e31.f, v49]) rfl rfl rfl rfl Z0l (Z3 rfl (Z3 rfl (Z3 rfl (Z3 rfl (Z3 rfl (Z3 (RS.one rs50) Zx)))))) ob45 S48.sub (by simp) (ds := [vi e31.op, vi e31.kind, vi e31.n, .string e31.s, .string e31.f, v49]) rfl (fun w51 s52 ob53 => ?_)
   have S54 := S48.trans1 s52 (.inr g47)
   refine Z6 <| Z4 <| Zc <| Z0 <| Wm rfl rfl <| Wv rfl (Z2t (cs := [vi e31.op, vi e31.kind, vi e31.n, .string e31.s, .string e31.f, v49]) rfl Z54 Z0l (OB.cells ob53 0 rfl)) <| Wm rfl rfl ?_
   have ob55 := ((ob30.step0 s44).step1 s52 ne46)
   obtain ⟨r56, hr57, HF⟩ := Z5 HF
   refine Wc rfl (Zd (vs := [pt b1 0, .agg #[vi e31.op, vi e31.kind, vi e31.n, .string e31.s, .string e31.f, v49], vi x9]) rfl t_ent_80) ((IH _ (Nat.le_trans (Nat.le_of_succ_le hj24) (Nat.le_refl _))).1 hr57 S54.sub (Zab.2 ⟨_, rfl, (rs50.mono (s52.le))⟩) ob55) ?_
   rintro _ w59 ⟨h60, s61, rfl, ob62⟩
   have S63 := S54.trans s61 (Zl (.inl (by simp)) Zt)
   refine Wv rfl (Z30 rfl) <| Z6 <| Z4 <| Z15 HF rfl (fun HF => ?_) (fun HF => ?_)
   ·refine Zc <| Z0 <| Wa rfl rfl <| Z6 <| Z4 <| Z0b <| Z0k <| Zv <| Zv <| Z0k <| Zv <| Z07 rfl rfl ?_
    obtain rfl := Option.some.inj HF
    exact ⟨_, rfl, h60, S63, rfl, ob62⟩
   refine Zq <| Zy <| Z4 <| Z0 <| Wv rfl (Z3e rfl rfl) <| Wm rfl rfl <| Z6 <| Z2p <| Z99 [0, 2, 9, 10, 11] [(0, pt b1 0), (2, vi x9), (9, sl b33 o34 (xs6).length c12), (10, vi (xs6.length : Int)), (11, vi (IntKind.i64.wrap (x18 + 1)))] rfl ?_
   exact IHL23 j22 (Nat.le_refl _) _ _ ⟨h60, IntKind.i64.wrap (x18 + 1), r56.2.1, r56.2.2, HF, rfl, S63, (le16).trans ((le28).trans ((s44.le).trans ((s52.le).trans s61.le))), ob62⟩
  intro J65
  refine Z15 HF rfl (fun HF => ?_) (fun HF => ?_)
  ·refine Zq <| Z01 [0, 2, 9, 10, 11] _ rfl ?_
   exact J65 ⟨h14, HF, rfl, S17, Hle.refl _, ob21⟩
  refine Z66 <| Z05 <| Z05 <| Z1m <| Z4 <| Zc <| Z0 <| Wa rfl rfl <| Z6 <| Z4 <| Z0b <| Z07 rfl rfl ?_
  obtain rfl := Option.some.inj HF
  exact ⟨_, rfl, h14, S17, rfl, ob21⟩
 exact ⟨h0, 0, x3, x4, HF, rfl, S0, Hle.refl _, ob5⟩
theorem all_ast_Counter_Expr : ∀ k j, j ≤ k → Z8n (Zz j).ast_Counter_Expr ∧ Z63 (Zz j).ast_Counter_Exprs := by
  intro k
  induction k with
  | zero =>
    intro j hj
    obtain rfl : j = 0 := by omega
    exact ⟨(fun _ _ _ _ _ => by intro h; cases h), (fun _ _ _ _ _ => by intro h; cases h)⟩
  | succ k ih =>
    intro j hj
    by_cases h : j ≤ k
    · exact ih j h
    · obtain rfl : j = k + 1 := by omega
      exact ⟨s_ast_Counter_Expr k ih, s_ast_Counter_Exprs k ih⟩
theorem Z9w (k : Nat) : Z63 (Z23 k) := (all_ast_Counter_Expr k k (Nat.le_refl _)).2
def Zem (φ : Int → Option Bool) : Prop := ∀ ⦃x1 : Int⦄ ⦃r : Bool⦄, φ x1 = some r → ∀ ⦃w0 : World⦄ ⦃h0 : Hp⦄, Sub h0 w0 →
  Calls Tryz.prog 172 #[.int .i64 x1] w0 fun e w1 => ∃ v, e = .returned v ∧ ∃ h1, Stp [] w0 h0 w1 h1 ∧ v = .bool r
theorem s_ast_Counter_arm_1 (k : Nat) : Zem (Z68 k) := by
 intro x1 r HF w0 h0  hs0 
 have S0 : Stp [] w0 h0 w0 h0 := Stp.refl hs0 _
 refine Z4o (n := 6) Tryz.func172 rfl Tryz.ntmps172 rfl [(0, vi x1)] rfl <| Zc <| Z0 <| Wa rfl rfl <| Z6 <| Z4 <| Zc <| Z0 <| Wm rfl rfl ?_
 obtain ⟨r2, hr3, HF⟩ := Z5 HF
 refine Wc rfl (Zd (vs := [vi x1]) rfl t_ent_131) (Zgs _ hr3 S0.sub) ?_
 rintro _ w5 ⟨h6, s7, rfl⟩
 have S8 := S0.trans0 s7
 refine Wv rfl (Z30 rfl) <| Wa rfl rfl <| Z6 <| Z4 <| Z0b <| Z07 rfl rfl ?_
 obtain rfl := Option.some.inj HF
 exact ⟨_, rfl, h6, S8, rfl⟩
theorem ok_ast_Counter_arm_1 (k : Nat) : Zem (Z68 k) := s_ast_Counter_arm_1 k
def Z4b (φ : (List Int) → Option Int) : Prop := ∀ ⦃xs1 : List Int⦄ ⦃r : Int⦄, φ xs1 = some r → ∀ ⦃w0 : World⦄ ⦃h0 : Hp⦄ ⦃v2 : Value⦄, Sub h0 w0 → RS h0 v2 xs1 →
  Calls Tryz.prog 190 #[v2, .func (.func 172) #[] #[]] w0 fun e w1 => ∃ v, e = .returned v ∧ ∃ h1, Stp [] w0 h0 w1 h1 ∧ v = .int .i64 r
theorem Zf7 (k : Nat) (IH : ∀ j, j ≤ k → Z4b (Z0z j).slices_IndexFunc_int_int) : Z4b (Z9f k (Z0z k)) := by
 intro xs1 r HF w0 h0 v2 hs0 rs3
 have S0 : Stp [] w0 h0 w0 h0 := Stp.refl hs0 _
 refine Z4o (n := 19) Tryz.func190 rfl Tryz.ntmps190 rfl [(0, v2), (1, .func (.func 172) #[] #[])] rfl <| Zc <| Z0 <| Wa rfl rfl <| Z6 <| Z4 <| Zc <| Zc <| Z0 <| Wm rfl rfl ?_
 obtain ⟨A4, c5, rfl, rs6⟩ := RS.form rs3
 refine Wv rfl (Z1i rfl Z5o) <| Wm rfl rfl <| Z6 <| Z4 <| Z0r <| Z5v <| Z99 [0, 1, 7, 8] [(0, .slice A4 (xs1).length c5), (1, .func (.func 172) #[] #[]), (7, vi (xs1.length : Int)), (8, vi 0)] rfl <| Z5u (K := k) (fun j E w8 => ∃ (h7 : Hp) (x11 : Int), (Z0z j).slices_IndexFunc_int_int_l1 xs1 x11 = some r ∧ E = [(0, .slice A4 (xs1).length c5), (1, .func (.func 172) #[] #[]), (7, vi (xs1.length : Int)), (8, vi x11)] ∧ Stp [] w0 h0 w8 h7 ∧ Hle h0 h7) ?_ ?_ (j := k) (Nat.le_refl _) ?_
 ·rintro E w8 ⟨_, _, HF, _⟩; cases HF
 ·rintro j12 hj14 IHL13 E w8 ⟨h7, x11, HF, rfl, S10, le9⟩
  refine Zc <| Z0 <| Wv rfl (Zdk rfl rfl) <| Z6 <| Z4 <| Z09 (fun E w17 => ∃ (h16 : Hp), Z3x j12 (Z0z j12) xs1 x11 = some r ∧ E = [(0, .slice A4 (xs1).length c5), (1, .func (.func 172) #[] #[]), (7, vi (xs1.length : Int)), (8, vi x11)] ∧ Stp [] w0 h0 w17 h16 ∧ Hle h7 h16) ?_ ?_
  ·rintro E w17 ⟨h16, HF, rfl, S19, le18⟩
   refine Zc <| Z0r <| Zc <| Z0 <| Wm rfl rfl <| Wa rfl rfl <| Z6 <| Z4 <| Zc <| Z0 <| Wm rfl rfl <| Wm rfl rfl <| Wm rfl rfl ?_
   obtain ⟨e20, he21, HF⟩ := Z5 HF
   obtain ⟨b22, o23, rfl, h25, h26, ra24⟩ := RS.atO (rs6.mono ((le9).trans le18)) he21
   obtain ⟨cs27, r28, hc29⟩ := ra24
   obtain rfl := (show cs27 = _ from r28)
   refine Wv rfl (Z1p rfl rfl Z5o Z1s h25 h26) <| Wv rfl (Zb rfl Z04 (S19.sub.at_ _ _ _ (hc29 0 _ rfl))) ?_
   obtain ⟨r30, hr31, HF⟩ := Z5 HF
   refine Wc rfl (oc_val (vs := [vi e20]) (caps := []) rfl rfl t_ent_172) (ok_ast_Counter_arm_1 _ hr31 S19.sub) ?_
   rintro _ w33 ⟨h34, s35, rfl⟩
   have S36 := S19.trans0 s35
   refine Z6 <| Z4 <| Z15 HF rfl (fun HF => ?_) (fun HF => ?_)
   ·refine Zc <| Z0 <| Wm rfl rfl <| Wa rfl rfl <| Z6 <| Z4 <| Z0b <| Z0k <| Zv <| Zv <| Z0k <| Zv <| Z07 rfl rfl ?_
    obtain rfl := Option.some.inj HF
    exact ⟨_, rfl, h34, S36, rfl⟩
   refine Zq <| Zy <| Z4 <| Z0 <| Wv rfl (Z3e rfl rfl) <| Wm rfl rfl <| Z6 <| Z2p <| Z99 [0, 1, 7, 8] [(0, sl b22 o23 (xs1).length c5), (1, .func (.func 172) #[] #[]), (7, vi (xs1.length : Int)), (8, vi (IntKind.i64.wrap (x11 + 1)))] rfl ?_
   exact IHL13 j12 (Nat.le_refl _) _ _ ⟨h34, IntKind.i64.wrap (x11 + 1), HF, rfl, S36, (le9).trans ((le18).trans s35.le)⟩
  intro J38
  refine Z15 HF rfl (fun HF => ?_) (fun HF => ?_)
  ·refine Zq <| Z01 [0, 1, 7, 8] _ rfl ?_
   exact J38 ⟨h7, HF, rfl, S10, Hle.refl _⟩
  refine Z66 <| Z05 <| Z05 <| Z1m <| Z4 <| Zc <| Z0 <| Wa rfl rfl <| Z6 <| Z4 <| Z0b <| Z07 rfl rfl ?_
  obtain rfl := Option.some.inj HF
  exact ⟨_, rfl, h7, S10, rfl⟩
 exact ⟨h0, 0, HF, rfl, S0, Hle.refl _⟩
theorem Zdl : ∀ k j, j ≤ k → Z4b (Z0z j).slices_IndexFunc_int_int := by
  intro k
  induction k with
  | zero =>
    intro j hj
    obtain rfl : j = 0 := by omega
    exact (fun _ _ => by intro h; cases h)
  | succ k ih =>
    intro j hj
    by_cases h : j ≤ k
    · exact ih j h
    · obtain rfl : j = k + 1 := by omega
      exact Zf7 k ih
theorem Zef (k : Nat) : Z4b (Z48 k) := (Zdl k k (Nat.le_refl _))
def Z7v (φ : (List Int) → Option Bool) : Prop := ∀ ⦃xs1 : List Int⦄ ⦃r : Bool⦄, φ xs1 = some r → ∀ ⦃w0 : World⦄ ⦃h0 : Hp⦄ ⦃v2 : Value⦄, Sub h0 w0 → RS h0 v2 xs1 →
  Calls Tryz.prog 171 #[v2, .func (.func 172) #[] #[]] w0 fun e w1 => ∃ v, e = .returned v ∧ ∃ h1, Stp [] w0 h0 w1 h1 ∧ v = .bool r
theorem Zdb (k : Nat) : Z7v (Z2q k) := by
 intro xs1 r HF w0 h0 v2 hs0 rs3
 have S0 : Stp [] w0 h0 w0 h0 := Stp.refl hs0 _
 refine Z4o (n := 9) Tryz.func171 rfl Tryz.ntmps171 rfl [(0, v2), (1, .func (.func 172) #[] #[])] rfl <| Zc <| Z0 <| Wa rfl rfl <| Z6 <| Z4 <| Zc <| Z0 <| Wm rfl rfl <| Wm rfl rfl ?_
 obtain ⟨r4, hr5, HF⟩ := Z5 HF
 refine Wc rfl (Zd (vs := [v2, .func (.func 172) #[] #[]]) rfl t_ent_190) (Zef _ hr5 S0.sub rs3) ?_
 rintro _ w7 ⟨h8, s9, rfl⟩
 have S10 := S0.trans0 s9
 refine Wv rfl (ov_geq rfl rfl) <| Wa rfl rfl <| Z6 <| Z4 <| Z0b <| Z07 rfl rfl ?_
 obtain rfl := Option.some.inj HF
 exact ⟨_, rfl, h8, S10, rfl⟩
theorem Zcj (k : Nat) : Z7v (Z2q k) := Zdb k
end Go.Proofs.YtkodnhngllfemaaGreatDoor
