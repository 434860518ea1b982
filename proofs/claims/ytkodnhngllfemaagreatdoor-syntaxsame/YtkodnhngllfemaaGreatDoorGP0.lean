import Derived.Test.YtkodnhngllfemaaGreatDoorE0
import Derived.Test.YtkodnhngllfemaaGreatDoorProg
import Derived.Test.YtkodnhngllfemaaGreatDoorGF
import Derived.Test.YtkodnhngllfemaaGreatDoorGM
set_option linter.unusedVariables false
set_option linter.unusedSimpArgs false
set_option maxRecDepth 20000
set_option maxHeartbeats 4000000
namespace Go.Proofs.YtkodnhngllfemaaGreatDoor
open Go
abbrev b'0 : ByteArray := ⟨#[100, 111]⟩
abbrev b'1 : ByteArray := ⟨#[101, 108, 115, 101]⟩
abbrev b'2 : ByteArray := ⟨#[101, 108, 115, 105, 102]⟩
abbrev b'3 : ByteArray := ⟨#[101, 110, 100, 95, 102, 111, 114]⟩
abbrev b'4 : ByteArray := ⟨#[101, 110, 100, 95, 105, 102]⟩
abbrev b'5 : ByteArray := ⟨#[101, 110, 100, 95, 114, 101, 112, 101, 97, 116]⟩
abbrev b'6 : ByteArray := ⟨#[101, 110, 100, 95, 119, 104, 105, 108, 101]⟩
abbrev b'7 : ByteArray := ⟨#[101, 110, 100, 95, 99, 97, 115, 101]⟩
abbrev b'8 : ByteArray := ⟨#[101, 120, 105, 116]⟩
abbrev b'9 : ByteArray := ⟨#[102, 111, 114]⟩
abbrev b'10 : ByteArray := ⟨#[102, 97, 108, 115, 101]⟩
abbrev b'11 : ByteArray := ⟨#[105, 102]⟩
abbrev b'12 : ByteArray := ⟨#[109, 111, 100]⟩
abbrev b'13 : ByteArray := ⟨#[110, 111, 116]⟩
abbrev b'14 : ByteArray := ⟨#[111, 102]⟩
abbrev b'15 : ByteArray := ⟨#[111, 114]⟩
abbrev b'16 : ByteArray := ⟨#[114, 101, 112, 101, 97, 116]⟩
abbrev b'17 : ByteArray := ⟨#[114, 101, 116, 117, 114, 110]⟩
abbrev b'18 : ByteArray := ⟨#[116, 104, 101, 110]⟩
abbrev b'19 : ByteArray := ⟨#[116, 111]⟩
abbrev b'20 : ByteArray := ⟨#[116, 114, 117, 101]⟩
abbrev b'21 : ByteArray := ⟨#[116, 35]⟩
abbrev b'22 : ByteArray := ⟨#[117, 110, 116, 105, 108]⟩
abbrev b'23 : ByteArray := ⟨#[119, 104, 105, 108, 101]⟩
abbrev b'24 : ByteArray := ⟨#[120, 111, 114]⟩
abbrev b'25 : ByteArray := ⟨#[40]⟩
abbrev b'26 : ByteArray := ⟨#[41]⟩
abbrev b'27 : ByteArray := ⟨#[42]⟩
abbrev b'28 : ByteArray := ⟨#[43]⟩
abbrev b'29 : ByteArray := ⟨#[44]⟩
abbrev b'30 : ByteArray := ⟨#[45]⟩
abbrev b'31 : ByteArray := ⟨#[46]⟩
abbrev b'32 : ByteArray := ⟨#[47]⟩
abbrev b'33 : ByteArray := ⟨#[58, 61]⟩
abbrev b'34 : ByteArray := ⟨#[58]⟩
abbrev b'35 : ByteArray := ⟨#[59]⟩
abbrev b'36 : ByteArray := ⟨#[60, 61]⟩
abbrev b'37 : ByteArray := ⟨#[60, 62]⟩
abbrev b'38 : ByteArray := ⟨#[60]⟩
abbrev b'39 : ByteArray := ⟨#[61]⟩
abbrev b'40 : ByteArray := ⟨#[62, 61]⟩
abbrev b'41 : ByteArray := ⟨#[62]⟩
abbrev b'42 : ByteArray := ⟨#[91]⟩
abbrev b'43 : ByteArray := ⟨#[93]⟩
abbrev b'44 : ByteArray := ⟨#[97, 110, 100]⟩
abbrev b'45 : ByteArray := ⟨#[98, 121]⟩
abbrev b'46 : ByteArray := ⟨#[99, 97, 115, 101]⟩
abbrev b'47 : ByteArray := ⟨#[]⟩
def Z8e (φ : (List Ex) → Int → Option Int) : Prop := ∀ ⦃xs1 : List Ex⦄ ⦃x4 : Int⦄ ⦃r : Int⦄, φ xs1 x4 = some r → ∀ ⦃w0 : World⦄ ⦃h0 : Hp⦄ ⦃v2 : Value⦄, Sub h0 w0 → RS h0 v2 xs1 →
  Calls Tryz.prog 26 #[v2, .int .i64 x4] w0 fun e w1 => ∃ v, e = .returned v ∧ ∃ h1, Stp [] w0 h0 w1 h1 ∧ v = .int .i64 r
theorem s_law02_weighExprs (k : Nat) (IH : ∀ j, j ≤ k → Z8e (Z10 j).law02_weighExprs) : Z8e (Z54 k (Z10 k)) := by
 intro xs1 x4 r HF w0 h0 v2 hs0 rs3
 have S0 : Stp [] w0 h0 w0 h0 := Stp.refl hs0 _
 refine Z4j (n := 32) Tryz.func26 rfl Tryz.ntmps26 rfl [(0, v2), (1, vi x4)] rfl <| Zb <| Z1 <| Wa rfl rfl <| Z7 <| Z6 <| Z09 (fun E w7 => ∃ (h6 : Hp), Za0 k (Z10 k) xs1 x4 = some r ∧ E = [(0, v2), (1, vi x4)] ∧ Stp [] w0 h0 w7 h6 ∧ Hle h0 h6) ?_ ?_
 ·rintro E w7 ⟨h6, HF, rfl, S9, le8⟩
  refine Zb <| Z1 <| Wm rfl rfl ?_
  obtain ⟨A10, c11, rfl, rs12⟩ := RS.form (rs3.mono (le8))
  refine Wv rfl (Z1n rfl Z0y) <| Wa rfl rfl <| Z7 <| Z6 <| Zb <| Zb <| Z1 <| Wa rfl rfl <| Z7 <| Z6 <| Z0p <| Z4m <| Z7y [0, 1, 5, 6] [(0, .slice A10 (xs1).length c11), (1, vi x4), (5, vi (xs1.length : Int)), (6, vi 0)] rfl <| Z4k (K := k) (fun j E w14 => ∃ (h13 : Hp) (x17 : Int) (x18 : Int), (Z10 j).law02_weighExprs_l2 xs1 x4 x17 x18 = some r ∧ E = [(0, .slice A10 (xs1).length c11), (1, vi x4), (5, vi x17), (6, vi x18)] ∧ Stp [] w0 h0 w14 h13 ∧ Hle h6 h13) ?_ ?_ (j := k) (Nat.le_refl _) ?_
  ·rintro E w14 ⟨_, _, _, HF, _⟩; cases HF
  ·rintro j19 hj21 IHL20 E w14 ⟨h13, x17, x18, HF, rfl, S16, le15⟩
   refine Z09 (fun E w31 => ∃ (h30 : Hp), Za1 j19 (Z10 j19) xs1 x4 x17 x18 = some r ∧ E = [(0, .slice A10 (xs1).length c11), (1, vi x4), (5, vi x17), (6, vi x18)] ∧ Stp [] w0 h0 w31 h30 ∧ Hle h13 h30) ?_ ?_
   ·rintro E w31 ⟨h30, HF, rfl, S33, le32⟩
    refine Zb <| Z0p <| Z1 <| Wm rfl rfl <| Wm rfl rfl <| Wm rfl rfl ?_
    obtain ⟨e34, he35, HF⟩ := Z8 HF
    obtain ⟨b36, o37, rfl, h39, h40, ra38⟩ := RS.atO (rs12.mono ((le15).trans le32)) he35
    obtain ⟨cs41, r42, hc43⟩ := ra38
    refine Wv rfl (Z07 rfl rfl Z0y Zw h39 h40) <| Wv rfl (Z2 rfl Z4i) ?_
    obtain ⟨v44, rfl, rs45⟩ := Z7n.1 r42
    refine Wv rfl (Zc rfl Z2k (S33.sub.at_ _ _ _ (hc43 5 _ rfl))) <| Wm rfl rfl <| Wv rfl (Z3n rfl rfl) ?_
    obtain ⟨r46, hr47, HF⟩ := Z8 HF
    refine Wc rfl (Ze (vs := [v44, vi (IntKind.i64.wrap (x4 + 1))]) rfl t_ent_26) ((IH _ (Nat.le_trans (Nat.le_of_succ_le hj21) (Nat.le_refl _))) hr47 S33.sub rs45) ?_
    rintro _ w49 ⟨h50, s51, rfl⟩
    have S52 := S33.trans0 s51
    refine Wv rfl (Z3n rfl rfl) <| Wa rfl rfl <| Z7 <| Z0a <| Z6 <| Z1 <| Wm rfl rfl <| Wv rfl (Z3n rfl rfl) <| Wa rfl rfl <| Z7 <| Z2c <| Z7y [0, 1, 5, 6] [(0, sl b36 o37 (xs1).length c11), (1, vi x4), (5, vi (IntKind.i64.wrap (x17 + r46))), (6, vi (IntKind.i64.wrap (x18 + 1)))] rfl ?_
    exact IHL20 j19 (Nat.le_refl _) _ _ ⟨h50, IntKind.i64.wrap (x17 + r46), IntKind.i64.wrap (x18 + 1), HF, rfl, S52, (le15).trans ((le32).trans s51.le)⟩
   intro J53
   refine Z09 (fun E w24 => ∃ (h23 : Hp) (x27 : Bool), Z4d j19 (Z10 j19) xs1 x4 x17 x18 x27 = some r ∧ E = [(0, .slice A10 (xs1).length c11), (1, vi x4), (5, vi x17), (6, vi x18), (18, .bool x27)] ∧ Stp [] w0 h0 w24 h23 ∧ Hle h13 h23) ?_ ?_
   ·rintro E w24 ⟨h23, x27, HF, rfl, S26, le25⟩
    refine Z17 HF rfl (fun HF => ?_) (fun HF => ?_)
    ·refine Zm <| Z0g [0, 1, 5, 6] _ rfl ?_
     exact J53 ⟨h23, HF, rfl, S26, le25⟩
    refine Z4x <| Zz <| Zz <| Z1a <| Z6 <| Zb <| Z1 <| Wm rfl rfl <| Wa rfl rfl <| Z7 <| Z6 <| Z00 <| Zt rfl rfl ?_
    obtain rfl := Option.some.inj HF
    exact ⟨_, rfl, h23, S26, rfl⟩
   intro J29
   refine Z1 <| Wm rfl rfl <| Wm rfl rfl <| Wv rfl (Z1n rfl Z0y) <| Wv rfl (Zbt rfl rfl) <| Wm rfl rfl <| Z3g 15 HF rfl (fun HF => ?_) (fun HF => ?_)
   ·refine Wm rfl rfl <| Wv rfl (ov_leq rfl rfl) <| Wv rfl (Zh rfl rfl) <| Z7 <| Z0g [0, 1, 5, 6, 18] _ rfl ?_
    exact J29 ⟨h13, decide ((x17 : Int) ≤ 2000), HF, rfl, S16, Hle.refl _⟩
   refine Wp rfl <| Wp rfl <| Wv rfl (Zg rfl rfl) <| Z7 <| Z0g [0, 1, 5, 6, 18] _ rfl ?_
   exact J29 ⟨h13, false, HF, rfl, S16, Hle.refl _⟩
  exact ⟨h6, (xs1.length : Int), 0, HF, rfl, S9, Hle.refl _⟩
 intro J54
 refine Zb <| Z1 <| Wm rfl rfl <| Wv rfl (Ze7 rfl rfl) <| Z7 <| Z6 <| Z17 HF rfl (fun HF => ?_) (fun HF => ?_)
 ·refine Zb <| Z1 <| Wa rfl rfl <| Z7 <| Z6 <| Z00 <| Zi <| Zt rfl rfl ?_
  obtain rfl := Option.some.inj HF
  exact ⟨_, rfl, h0, S0, rfl⟩
 refine Zm <| Z0g [0, 1] _ rfl ?_
 exact J54 ⟨h0, HF, rfl, S0, Hle.refl _⟩
theorem all_law02_weighExprs : ∀ k j, j ≤ k → Z8e (Z10 j).law02_weighExprs := by
  intro k
  induction k with
  | zero =>
    intro j hj
    obtain rfl : j = 0 := by omega
    exact (fun _ _ _ => by intro h; cases h)
  | succ k ih =>
    intro j hj
    by_cases h : j ≤ k
    · exact ih j h
    · obtain rfl : j = k + 1 := by omega
      exact s_law02_weighExprs k ih
theorem Z7x (k : Nat) : Z8e (Z1i k) := (all_law02_weighExprs k k (Nat.le_refl _))
def Z5t (φ : (List Int) → (List Int) → Option Bool) : Prop := ∀ ⦃xs1 : List Int⦄ ⦃xs4 : List Int⦄ ⦃r : Bool⦄, φ xs1 xs4 = some r → ∀ ⦃w0 : World⦄ ⦃h0 : Hp⦄ ⦃v2 : Value⦄ ⦃v5 : Value⦄, Sub h0 w0 → RS h0 v2 xs1 → RS h0 v5 xs4 →
  Calls Tryz.prog 147 #[v2, v5] w0 fun e w1 => ∃ v, e = .returned v ∧ ∃ h1, Stp [] w0 h0 w1 h1 ∧ v = .bool r
theorem s_slices_Equal_int_int (k : Nat) (IH : ∀ j, j ≤ k → Z5t (Z1d j).slices_Equal_int_int) : Z5t (Zbo k (Z1d k)) := by
 intro xs1 xs4 r HF w0 h0 v2 v5 hs0 rs3 rs6
 have S0 : Stp [] w0 h0 w0 h0 := Stp.refl hs0 _
 refine Z4j (n := 26) Tryz.func147 rfl Tryz.ntmps147 rfl [(0, v2), (1, v5)] rfl <| Zb <| Z1 <| Wa rfl rfl <| Z7 <| Z6 <| Z09 (fun E w15 => ∃ (h14 : Hp), Zav k (Z1d k) xs1 xs4 = some r ∧ E = [(0, v2), (1, v5)] ∧ Stp [] w0 h0 w15 h14 ∧ Hle h0 h14) ?_ ?_
 ·rintro E w15 ⟨h14, HF, rfl, S17, le16⟩
  refine Zb <| Zb <| Z1 <| Wm rfl rfl ?_
  obtain ⟨A18, c19, rfl, rs20⟩ := RS.form (rs3.mono (le16))
  refine Wv rfl (Z1n rfl Z3h) <| Wm rfl rfl <| Z7 <| Z6 <| Z0p <| Z4m <| Z7y [0, 1, 12, 13] [(0, .slice A18 (xs1).length c19), (1, v5), (12, vi (xs1.length : Int)), (13, vi 0)] rfl <| Z4k (K := k) (fun j E w22 => ∃ (h21 : Hp) (x25 : Int), (Z1d j).slices_Equal_int_int_l2 xs1 xs4 x25 = some r ∧ E = [(0, .slice A18 (xs1).length c19), (1, v5), (12, vi (xs1.length : Int)), (13, vi x25)] ∧ Stp [] w0 h0 w22 h21 ∧ Hle h14 h21) ?_ ?_ (j := k) (Nat.le_refl _) ?_
  ·rintro E w22 ⟨_, _, HF, _⟩; cases HF
  ·rintro j26 hj28 IHL27 E w22 ⟨h21, x25, HF, rfl, S24, le23⟩
   refine Zb <| Z1 <| Wv rfl (Zbt rfl rfl) <| Z7 <| Z6 <| Z09 (fun E w31 => ∃ (h30 : Hp), Zau j26 (Z1d j26) xs1 xs4 x25 = some r ∧ E = [(0, .slice A18 (xs1).length c19), (1, v5), (12, vi (xs1.length : Int)), (13, vi x25)] ∧ Stp [] w0 h0 w31 h30 ∧ Hle h21 h30) ?_ ?_
   ·rintro E w31 ⟨h30, HF, rfl, S33, le32⟩
    refine Zb <| Z0p <| Zb <| Z1 <| Wm rfl rfl <| Wa rfl rfl <| Z7 <| Z6 <| Zb ?_
    obtain ⟨e34, he35, HF⟩ := Z8 HF
    obtain ⟨b36, o37, rfl, h39, h40, ra38⟩ := RS.atO (rs20.mono ((le23).trans le32)) he35
    obtain ⟨cs41, r42, hc43⟩ := ra38
    obtain rfl := (show cs41 = _ from r42)
    obtain ⟨A44, c45, rfl, rs46⟩ := RS.form (rs6.mono ((le16).trans ((le23).trans le32)))
    obtain ⟨e47, he48, HF⟩ := Z8 HF
    obtain ⟨b49, o50, rfl, h52, h53, ra51⟩ := RS.atO rs46 he48
    obtain ⟨cs54, r55, hc56⟩ := ra51
    obtain rfl := (show cs54 = _ from r55)
    refine Z2x (m := 8) [(0, sl b36 o37 (xs1).length c19), (1, sl b49 o50 (xs4).length c45), (5, vi x25), (12, vi (xs1.length : Int)), (13, vi x25)] [0, 1, 5, 12, 13] rfl (fun i v w h => match i with | 0 => v = sl b36 o37 (xs1).length c19 | 1 => v = vi x25 | 2 => v = pt b36 (o37 + Int.toNat x25 * 1) | 3 => v = vi e34 | 4 => v = sl b49 o50 (xs4).length c45 | 5 => v = vi x25 | 6 => v = pt b49 (o50 + Int.toNat x25 * 1) | 7 => v = vi e47 | _ => True) Z3f S33.sub rfl rfl rfl rfl rfl ?_ ?_ ?_
    ·intro i v w h w2 h2 hΦ hst
     match i, hΦ with
     | 0, hΦ | 1, hΦ | 2, hΦ | 3, hΦ | 4, hΦ | 5, hΦ | 6, hΦ | 7, hΦ => exact hΦ
     | i + 8, _ => exact trivial
    ·refine ⟨?_, ?_, ?_, ?_, ?_, ?_, ?_, ?_, trivial⟩
     ·intro a w57 h58 s59 hat hF
      exact Z3 hat rfl (Zu rfl) s59.sub (by exact rfl)
     ·intro a w57 h58 s59 hat hF
      exact Z3 hat rfl (Zu rfl) s59.sub (by exact rfl)
     ·intro a w57 h58 s59 hat hF
      exact Z3 (Z0 (Z0 hat (hF 0 16 rfl rfl)) (hF 1 17 rfl rfl)) rfl (Z07 rfl rfl Z3h Z1p h39 h40) s59.sub (by exact rfl)
     ·intro a w57 h58 s59 hat hF
      exact Z3 (Z0 hat (hF 2 18 rfl rfl)) rfl (Zc rfl Z0f (s59.sub.at_ _ _ _ ((fun i v hv => (s59.le).1 _ _ _ (hc43 i v hv)) 0 _ rfl))) s59.sub (by exact rfl)
     ·intro a w57 h58 s59 hat hF
      exact Z3 hat rfl (Zu rfl) s59.sub (by exact rfl)
     ·intro a w57 h58 s59 hat hF
      exact Z3 hat rfl (Zu rfl) s59.sub (by exact rfl)
     ·intro a w57 h58 s59 hat hF
      exact Z3 (Z0 (Z0 hat (hF 4 20 rfl rfl)) (hF 5 21 rfl rfl)) rfl (Z07 rfl rfl Z3h Z1p h52 h53) s59.sub (by exact rfl)
     intro a w57 h58 s59 hat hF
     exact Z3 (Z0 hat (hF 6 22 rfl rfl)) rfl (Zc rfl Z0f (s59.sub.at_ _ _ _ ((fun i v hv => (s59.le).1 _ _ _ (hc56 i v hv)) 0 _ rfl))) s59.sub (by exact rfl)
    intro a w57 h58 s59 hat hF
    obtain hv0 := hF 0 16 (by decide) rfl
    obtain hv1 := hF 1 17 (by decide) rfl
    obtain hv2 := hF 2 18 (by decide) rfl
    obtain hv3 := hF 3 19 (by decide) rfl
    obtain hv4 := hF 4 20 (by decide) rfl
    obtain hv5 := hF 5 21 (by decide) rfl
    obtain hv6 := hF 6 22 (by decide) rfl
    obtain hv7 := hF 7 23 (by decide) rfl
    refine Z7z [(23, vi e47), (22, pt b49 (o50 + Int.toNat x25 * 1)), (21, vi x25), (20, sl b49 o50 (xs4).length c45), (19, vi e34), (18, pt b36 (o37 + Int.toNat x25 * 1)), (17, vi x25), (16, sl b36 o37 (xs1).length c19), (0, sl b36 o37 (xs1).length c19), (1, sl b49 o50 (xs4).length c45), (5, vi x25), (12, vi (xs1.length : Int)), (13, vi x25)] (Z0 (Z0 (Z0 (Z0 (Z0 (Z0 (Z0 (Z0 hat hv0) hv1) hv2) hv3) hv4) hv5) hv6) hv7) ?_
    have S60 := S33.trans0 s59
    refine Wv rfl (Z7e rfl rfl) <| Z7 <| Z6 <| Z17 HF rfl (fun HF => ?_) (fun HF => ?_)
    ·refine Zb <| Z1 <| Wa rfl rfl <| Z7 <| Z6 <| Z00 <| Zy <| Zi <| Zi <| Zy <| Zi <| Zt rfl rfl ?_
     obtain rfl := Option.some.inj HF
     exact ⟨_, rfl, h58, S60, rfl⟩
    refine Zm <| Z0a <| Z6 <| Z1 <| Wv rfl (Z3n rfl rfl) <| Wm rfl rfl <| Z7 <| Z2c <| Z7y [0, 1, 12, 13] [(0, sl b36 o37 (xs1).length c19), (1, sl b49 o50 (xs4).length c45), (12, vi (xs1.length : Int)), (13, vi (IntKind.i64.wrap (x25 + 1)))] rfl ?_
    exact IHL27 j26 (Nat.le_refl _) _ _ ⟨h58, IntKind.i64.wrap (x25 + 1), HF, rfl, S60, (le23).trans ((le32).trans s59.le)⟩
   intro J62
   refine Z17 HF rfl (fun HF => ?_) (fun HF => ?_)
   ·refine Zm <| Z0g [0, 1, 12, 13] _ rfl ?_
    exact J62 ⟨h21, HF, rfl, S24, Hle.refl _⟩
   refine Z4x <| Zz <| Zz <| Z1a <| Z6 <| Zb <| Z1 <| Wa rfl rfl <| Z7 <| Z6 <| Z00 <| Zt rfl rfl ?_
   obtain rfl := Option.some.inj HF
   exact ⟨_, rfl, h21, S24, rfl⟩
  exact ⟨h14, 0, HF, rfl, S17, Hle.refl _⟩
 intro J63
 refine Zb <| Z1 <| Wm rfl rfl ?_
 obtain ⟨A7, c8, rfl, rs9⟩ := RS.form rs3
 refine Wv rfl (Z1n rfl Z3h) <| Wm rfl rfl ?_
 obtain ⟨A10, c11, rfl, rs12⟩ := RS.form rs6
 refine Wv rfl (Z1n rfl Z3h) <| Wv rfl (Z7e rfl rfl) <| Z7 <| Z6 <| Z17 HF rfl (fun HF => ?_) (fun HF => ?_)
 ·refine Zb <| Z1 <| Wa rfl rfl <| Z7 <| Z6 <| Z00 <| Zi <| Zt rfl rfl ?_
  obtain rfl := Option.some.inj HF
  exact ⟨_, rfl, h0, S0, rfl⟩
 refine Zm <| Z0g [0, 1] _ rfl ?_
 exact J63 ⟨h0, HF, rfl, S0, Hle.refl _⟩
theorem Zgh : ∀ k j, j ≤ k → Z5t (Z1d j).slices_Equal_int_int := by
  intro k
  induction k with
  | zero =>
    intro j hj
    obtain rfl : j = 0 := by omega
    exact (fun _ _ _ => by intro h; cases h)
  | succ k ih =>
    intro j hj
    by_cases h : j ≤ k
    · exact ih j h
    · obtain rfl : j = k + 1 := by omega
      exact s_slices_Equal_int_int k ih
theorem Zhg (k : Nat) : Z5t (Z8b k) := (Zgh k k (Nat.le_refl _))
def Z8g (φ : Ex → Ex → Option Bool) : Prop := ∀ ⦃x1 : Ex⦄ ⦃x4 : Ex⦄ ⦃r : Bool⦄, φ x1 x4 = some r → ∀ ⦃w0 : World⦄ ⦃h0 : Hp⦄ ⦃cs2 : List Value⦄ ⦃cs5 : List Value⦄, Sub h0 w0 → Rp.R h0 x1 cs2 → Rp.R h0 x4 cs5 →
  Calls Tryz.prog 51 #[.agg cs2.toArray, .agg cs5.toArray] w0 fun e w1 => ∃ v, e = .returned v ∧ ∃ h1, Stp [] w0 h0 w1 h1 ∧ v = .bool r
def Z7h (φ : (List Ex) → (List Ex) → Option Bool) : Prop := ∀ ⦃xs1 : List Ex⦄ ⦃xs4 : List Ex⦄ ⦃r : Bool⦄, φ xs1 xs4 = some r → ∀ ⦃w0 : World⦄ ⦃h0 : Hp⦄ ⦃v2 : Value⦄ ⦃v5 : Value⦄, Sub h0 w0 → RS h0 v2 xs1 → RS h0 v5 xs4 →
  Calls Tryz.prog 88 #[v2, v5] w0 fun e w1 => ∃ v, e = .returned v ∧ ∃ h1, Stp [] w0 h0 w1 h1 ∧ v = .bool r
def Z0s (φ : (List Ex) → (List Ex) → Option Bool) : Prop := ∀ ⦃xs1 : List Ex⦄ ⦃xs4 : List Ex⦄ ⦃r : Bool⦄, φ xs1 xs4 = some r → ∀ ⦃w0 : World⦄ ⦃h0 : Hp⦄ ⦃v2 : Value⦄ ⦃v5 : Value⦄, Sub h0 w0 → RS h0 v2 xs1 → RS h0 v5 xs4 →
  Calls Tryz.prog 148 #[v2, v5, .func (.func 51) #[] #[]] w0 fun e w1 => ∃ v, e = .returned v ∧ ∃ h1, Stp [] w0 h0 w1 h1 ∧ v = .bool r
theorem s_ast_SameExpr (k : Nat) (IH : ∀ j, j ≤ k → Z8g (Z0m j).ast_SameExpr ∧ Z7h (Z0m j).ast_SameExprs ∧ Z0s (Z0m j).slices_EqualFunc_api_Expr_api_Expr_api_Expr_api_Expr) : Z8g (m_ast_SameExpr k (Z0m k)) := by
 intro x1 x4 r HF w0 h0 cs2 cs5 hs0 r3 r6
 have S0 : Stp [] w0 h0 w0 h0 := Stp.refl hs0 _
 refine Z4j (n := 45) Tryz.func51 rfl Tryz.ntmps51 rfl [(0, .agg cs2.toArray), (1, .agg cs5.toArray)] rfl <| Zb <| Z1 ?_
 obtain ⟨v7, rfl, rs8⟩ := Z7n.1 r3
 refine Zhq (cs := [vi x1.op, vi x1.kind, vi x1.n, .string x1.s, .string x1.f, v7]) rfl rfl rfl rfl S0.sub (fun w9 b10 hb11 s12 ob13 => ?_)
 have g14 : w0.heap.size ≤ b10 := by rw [hb11]; exact S0.size
 have S15 := S0.trans0 s12
 obtain ⟨v16, rfl, rs17⟩ := Z7n.1 (Rp.mono (s12.le) r6)
 refine Zhq (cs := [vi x4.op, vi x4.kind, vi x4.n, .string x4.s, .string x4.f, v16]) rfl rfl rfl rfl S15.sub (fun w18 b19 hb20 s21 ob22 => ?_)
 have ne23 : b10 ≠ b19 := ob13.ne_new hb20
 have g24 : w0.heap.size ≤ b19 := by rw [hb20]; exact S15.size
 have S25 := S15.trans0 s21
 refine Wa rfl rfl <| Z7 <| Z6 <| Zb <| Z1 <| Wv rfl (Z2 rfl Z64) ?_
 have ob26 := (ob13.step0 s21)
 refine Wv rfl (Zc rfl Z0f (OB.cell ob26 (j := 0) rfl)) <| Wv rfl (Z2 rfl Z64) <| Wv rfl (Zc rfl Z0f (OB.cell ob22 (j := 0) rfl)) <| Wv rfl (Z4n rfl rfl) <| Wm rfl rfl <| Z3g 10 HF rfl (fun HF => ?_) (fun HF => ?_)
 ·refine Wv rfl (Z2 rfl Zbb) <| Wv rfl (Zc rfl Z0f (OB.cell ob26 (j := 1) rfl)) <| Wv rfl (Z2 rfl Zbb) <| Wv rfl (Zc rfl Z0f (OB.cell ob22 (j := 1) rfl)) <| Wv rfl (Z4n rfl rfl) <| Wv rfl (Zh rfl rfl) <| Wm rfl rfl <| Z3g 17 HF rfl (fun HF => ?_) (fun HF => ?_)
  ·refine Wv rfl (Z2 rfl Zba) <| Wv rfl (Zc rfl Z0f (OB.cell ob26 (j := 2) rfl)) <| Wv rfl (Z2 rfl Zba) <| Wv rfl (Zc rfl Z0f (OB.cell ob22 (j := 2) rfl)) <| Wv rfl (Z4n rfl rfl) <| Wv rfl (Zh rfl rfl) <| Wm rfl rfl <| Z3g 24 HF rfl (fun HF => ?_) (fun HF => ?_)
   ·refine Wv rfl (Z2 rfl Zdd) <| Wv rfl (Zc rfl Z2r (OB.cell ob26 (j := 3) rfl)) <| Wv rfl (Z2 rfl Zdd) <| Wv rfl (Zc rfl Z2r (OB.cell ob22 (j := 3) rfl)) <| Wv rfl (Z0d rfl rfl) <| Wv rfl (Zh rfl rfl) <| Wm rfl rfl <| Z3g 31 HF rfl (fun HF => ?_) (fun HF => ?_)
    ·refine Wv rfl (Z2 rfl Zb9) <| Wv rfl (Zc rfl Z2r (OB.cell ob26 (j := 4) rfl)) <| Wv rfl (Z2 rfl Zb9) <| Wv rfl (Zc rfl Z2r (OB.cell ob22 (j := 4) rfl)) <| Wv rfl (Z0d rfl rfl) <| Wv rfl (Zh rfl rfl) <| Wm rfl rfl <| Z3g 38 HF rfl (fun HF => ?_) (fun HF => ?_)
     ·refine Wv rfl (Z2 rfl Z4i) <| Wv rfl (Zc rfl Z2k (OB.cell ob26 (j := 5) rfl)) <| Wv rfl (Z2 rfl Z4i) <| Wv rfl (Zc rfl Z2k (OB.cell ob22 (j := 5) rfl)) ?_
      obtain ⟨r32, hr33, HF⟩ := Z8 HF
      refine Wc rfl (Ze (vs := [v7, v16]) rfl t_ent_88) ((IH _ (Nat.le_refl _)).2.1 hr33 S25.sub (rs8.mono ((s12.le).trans s21.le)) (rs17.mono (s21.le))) ?_
      rintro _ w35 ⟨h36, s37, rfl⟩
      have S38 := S25.trans0 s37
      refine Wv rfl (Zh rfl rfl) <| Wa rfl rfl <| Z7 <| Z6 <| Z00 <| Zt rfl rfl ?_
      obtain rfl := Option.some.inj HF
      exact ⟨_, rfl, h36, S38, rfl⟩
     refine Wp rfl <| Wp rfl <| Wp rfl <| Wp rfl <| Wp rfl <| Wv rfl (Zg rfl rfl) <| Wa rfl rfl <| Z7 <| Z6 <| Z00 <| Zt rfl rfl ?_
     obtain rfl := Option.some.inj HF
     exact ⟨_, rfl, h0, S25, rfl⟩
    refine Wp rfl <| Wp rfl <| Wp rfl <| Wp rfl <| Wp rfl <| Wv rfl (Zg rfl rfl) <| Wm rfl rfl <| Wp rfl <| Wp rfl <| Wp rfl <| Wp rfl <| Wp rfl <| Wv rfl (Zg rfl rfl) <| Wa rfl rfl <| Z7 <| Z6 <| Z00 <| Zt rfl rfl ?_
    obtain rfl := Option.some.inj HF
    exact ⟨_, rfl, h0, S25, rfl⟩
   refine Wp rfl <| Wp rfl <| Wp rfl <| Wp rfl <| Wp rfl <| Wv rfl (Zg rfl rfl) <| Wm rfl rfl <| Wp rfl <| Wp rfl <| Wp rfl <| Wp rfl <| Wp rfl <| Wv rfl (Zg rfl rfl) <| Wm rfl rfl <| Wp rfl <| Wp rfl <| Wp rfl <| Wp rfl <| Wp rfl <| Wv rfl (Zg rfl rfl) <| Wa rfl rfl <| Z7 <| Z6 <| Z00 <| Zt rfl rfl ?_
   obtain rfl := Option.some.inj HF
   exact ⟨_, rfl, h0, S25, rfl⟩
  refine Wp rfl <| Wp rfl <| Wp rfl <| Wp rfl <| Wp rfl <| Wv rfl (Zg rfl rfl) <| Wm rfl rfl <| Wp rfl <| Wp rfl <| Wp rfl <| Wp rfl <| Wp rfl <| Wv rfl (Zg rfl rfl) <| Wm rfl rfl <| Wp rfl <| Wp rfl <| Wp rfl <| Wp rfl <| Wp rfl <| Wv rfl (Zg rfl rfl) <| Wm rfl rfl <| Wp rfl <| Wp rfl <| Wp rfl <| Wp rfl <| Wp rfl <| Wv rfl (Zg rfl rfl) <| Wa rfl rfl <| Z7 <| Z6 <| Z00 <| Zt rfl rfl ?_
  obtain rfl := Option.some.inj HF
  exact ⟨_, rfl, h0, S25, rfl⟩
 refine Wp rfl <| Wp rfl <| Wp rfl <| Wp rfl <| Wp rfl <| Wv rfl (Zg rfl rfl) <| Wm rfl rfl <| Wp rfl <| Wp rfl <| Wp rfl <| Wp rfl <| Wp rfl <| Wv rfl (Zg rfl rfl) <| Wm rfl rfl <| Wp rfl <| Wp rfl <| Wp rfl <| Wp rfl <| Wp rfl <| Wv rfl (Zg rfl rfl) <| Wm rfl rfl <| Wp rfl <| Wp rfl <| Wp rfl <| Wp rfl <| Wp rfl <| Wv rfl (Zg rfl rfl) <| Wm rfl rfl <| Wp rfl <| Wp rfl <| Wp rfl <| Wp rfl <| Wp rfl <| Wv rfl (Zg rfl rfl) <| Wa rfl rfl <| Z7 <| Z6 <| Z00 <| Zt rfl rfl ?_
 obtain rfl := Option.some.inj HF
 exact ⟨_, rfl, h0, S25, rfl⟩
theorem s_ast_SameExprs (k : Nat) (IH : ∀ j, j ≤ k → Z8g (Z0m j).ast_SameExpr ∧ Z7h (Z0m j).ast_SameExprs ∧ Z0s (Z0m j).slices_EqualFunc_api_Expr_api_Expr_api_Expr_api_Expr) : Z7h (m_ast_SameExprs k (Z0m k)) := by
 intro xs1 xs4 r HF w0 h0 v2 v5 hs0 rs3 rs6
 have S0 : Stp [] w0 h0 w0 h0 := Stp.refl hs0 _
 refine Z4j (n := 8) Tryz.func88 rfl Tryz.ntmps88 rfl [(0, v2), (1, v5)] rfl <| Zb <| Z1 <| Wa rfl rfl <| Z7 <| Z6 <| Zb <| Z1 <| Wm rfl rfl <| Wm rfl rfl ?_
 obtain ⟨r7, hr8, HF⟩ := Z8 HF
 refine Wc rfl (Ze (vs := [v2, v5, .func (.func 51) #[] #[]]) rfl t_ent_148) ((IH _ (Nat.le_refl _)).2.2 hr8 S0.sub rs3 rs6) ?_
 rintro _ w10 ⟨h11, s12, rfl⟩
 have S13 := S0.trans0 s12
 refine Wa rfl rfl <| Z7 <| Z6 <| Z00 <| Zt rfl rfl ?_
 obtain rfl := Option.some.inj HF
 exact ⟨_, rfl, h11, S13, rfl⟩
theorem Z4w (k : Nat) (IH : ∀ j, j ≤ k → Z8g (Z0m j).ast_SameExpr ∧ Z7h (Z0m j).ast_SameExprs ∧ Z0s (Z0m j).slices_EqualFunc_api_Expr_api_Expr_api_Expr_api_Expr) : Z0s (Z2s k (Z0m k)) := by
 intro xs1 xs4 r HF w0 h0 v2 v5 hs0 rs3 rs6
 have S0 : Stp [] w0 h0 w0 h0 := Stp.refl hs0 _
 refine Z4j (n := 32) Tryz.func148 rfl Tryz.ntmps148 rfl [(0, v2), (1, v5), (2, .func (.func 51) #[] #[])] rfl <| Zb <| Z1 <| Wa rfl rfl <| Z7 <| Z6 <| Z09 (fun E w15 => ∃ (h14 : Hp), Z2p k (Z0m k) xs1 xs4 = some r ∧ E = [(0, v2), (1, v5), (2, .func (.func 51) #[] #[])] ∧ Stp [] w0 h0 w15 h14 ∧ Hle h0 h14) ?_ ?_
 ·rintro E w15 ⟨h14, HF, rfl, S17, le16⟩
  refine Zb <| Zb <| Z1 <| Wm rfl rfl ?_
  obtain ⟨A18, c19, rfl, rs20⟩ := RS.form (rs3.mono (le16))
  refine Wv rfl (Z1n rfl Z0y) <| Wm rfl rfl <| Z7 <| Z6 <| Z0p <| Z4m <| Z7y [1, 2, 15, 16, 17] [(1, v5), (2, .func (.func 51) #[] #[]), (15, .slice A18 (xs1).length c19), (16, vi (xs1.length : Int)), (17, vi 0)] rfl <| Z4k (K := k) (fun j E w22 => ∃ (h21 : Hp) (x25 : Int), (Z0m j).slices_EqualFunc_api_Expr_api_Expr_api_Expr_api_Expr_l2 xs1 xs4 x25 = some r ∧ E = [(1, v5), (2, .func (.func 51) #[] #[]), (15, .slice A18 (xs1).length c19), (16, vi (xs1.length : Int)), (17, vi x25)] ∧ Stp [] w0 h0 w22 h21 ∧ Hle h14 h21) ?_ ?_ (j := k) (Nat.le_refl _) ?_
  ·rintro E w22 ⟨_, _, HF, _⟩; cases HF
  ·rintro j26 hj28 IHL27 E w22 ⟨h21, x25, HF, rfl, S24, le23⟩
   refine Zb <| Z1 <| Wv rfl (Zbt rfl rfl) <| Z7 <| Z6 <| Z09 (fun E w31 => ∃ (h30 : Hp), Z1q j26 (Z0m j26) xs1 xs4 x25 = some r ∧ E = [(1, v5), (2, .func (.func 51) #[] #[]), (15, .slice A18 (xs1).length c19), (16, vi (xs1.length : Int)), (17, vi x25)] ∧ Stp [] w0 h0 w31 h30 ∧ Hle h21 h30) ?_ ?_
   ·rintro E w31 ⟨h30, HF, rfl, S33, le32⟩
    refine Zb <| Z0p <| Zb <| Z1 <| Wm rfl rfl ?_
    obtain ⟨e34, he35, HF⟩ := Z8 HF
    obtain ⟨b36, o37, rfl, h39, h40, ra38⟩ := RS.atO (rs20.mono ((le23).trans le32)) he35
    obtain ⟨cs41, r42, hc43⟩ := ra38
    refine Wv rfl (Z07 rfl rfl Z0y Zw h39 h40) <| Wv rfl (Z16 (cs := cs41) rfl Z2a (by rw [Rp.len r42]; exact Zw) (fun j v hv => S33.sub.at_ _ _ _ (hc43 j v hv))) <| Z15 (zs := [vi 0, vi 0, vi 0, .string b'47, .string b'47, .slice none 0 0]) rfl rfl Z1t rfl S33.sub (fun w44 b45 hb46 s47 ob48 => ?_)
    have g49 : w0.heap.size ≤ b45 := by rw [hb46]; exact S33.size
    have S50 := S33.trans0 s47
    refine Wa rfl rfl ?_
    obtain ⟨v51, rfl, rs52⟩ := Z7n.1 (Rp.mono (s47.le) r42)
    refine Zo (vs := [vi e34.op, vi e34.kind, vi e34.n, .string e34.s, .string e34.f, v51]) rfl rfl rfl rfl Zw (Z5 rfl (Z5 rfl (Z5 rfl (Z5 rfl (Z5 rfl (Z5 (RS.one rs52) Zx)))))) ob48 S50.sub (by simp) (ds := [vi e34.op, vi e34.kind, vi e34.n, .string e34.s, .string e34.f, v51]) rfl (fun w53 s54 ob55 => ?_)
    have S56 := S50.trans1 s54 (.inr g49)
    refine Z7 <| Z6 <| Zb <| Z1 <| Wm rfl rfl <| Wm rfl rfl ?_
    obtain ⟨A57, c58, rfl, rs59⟩ := RS.form (rs6.mono ((le16).trans ((le23).trans ((le32).trans ((s47.le).trans s54.le)))))
    obtain ⟨e60, he61, HF⟩ := Z8 HF
    obtain ⟨b62, o63, rfl, h65, h66, ra64⟩ := RS.atO rs59 he61
    obtain ⟨cs67, r68, hc69⟩ := ra64
    refine Wv rfl (Z07 rfl rfl Z0y Zw h65 h66) <| Wv rfl (Z16 (cs := cs67) rfl Z2a (by rw [Rp.len r68]; exact Zw) (fun j v hv => S56.sub.at_ _ _ _ (hc69 j v hv))) <| Z15 (zs := [vi 0, vi 0, vi 0, .string b'47, .string b'47, .slice none 0 0]) rfl rfl Z1t rfl S56.sub (fun w70 b71 hb72 s73 ob74 => ?_)
    have ne75 : b45 ≠ b71 := ob55.ne_new hb72
    have g76 : w0.heap.size ≤ b71 := by rw [hb72]; exact S56.size
    have S77 := S56.trans0 s73
    obtain ⟨v78, rfl, rs79⟩ := Z7n.1 (Rp.mono (s73.le) r68)
    refine Zo (vs := [vi e60.op, vi e60.kind, vi e60.n, .string e60.s, .string e60.f, v78]) rfl rfl rfl rfl Zw (Z5 rfl (Z5 rfl (Z5 rfl (Z5 rfl (Z5 rfl (Z5 (RS.one rs79) Zx)))))) ob74 S77.sub (by simp) (ds := [vi e60.op, vi e60.kind, vi e60.n, .string e60.s, .string e60.f, v78]) rfl (fun w80 s81 ob82 => ?_)
    have S83 := S77.trans1 s81 (.inr g76)
    refine Z7 <| Z6 <| Zb <| Z1 <| Wm rfl rfl ?_
    have ob84 := ((ob55.step0 s73).step1 s81 ne75)
    refine Wv rfl (Z16 (cs := [vi e34.op, vi e34.kind, vi e34.n, .string e34.s, .string e34.f, v51]) rfl Z2a Zw (OB.cells ob84 0 rfl)) <| Wv rfl (Z16 (cs := [vi e60.op, vi e60.kind, vi e60.n, .string e60.s, .string e60.f, v78]) rfl Z2a Zw (OB.cells ob82 0 rfl)) ?_
    obtain ⟨r85, hr86, HF⟩ := Z8 HF
    refine Wc rfl (oc_val (vs := [.agg #[vi e34.op, vi e34.kind, vi e34.n, .string e34.s, .string e34.f, v51], .agg #[vi e60.op, vi e60.kind, vi e60.n, .string e60.s, .string e60.f, v78]]) (caps := []) rfl rfl t_ent_51) ((IH _ (Nat.le_trans (Nat.le_of_succ_le hj28) (Nat.le_refl _))).1 hr86 S83.sub (Z7n.2 ⟨_, rfl, (rs52.mono ((s54.le).trans ((s73.le).trans s81.le)))⟩) (Z7n.2 ⟨_, rfl, (rs79.mono (s81.le))⟩)) ?_
    rintro _ w88 ⟨h89, s90, rfl⟩
    have S91 := S83.trans0 s90
    refine Wv rfl (Z3c rfl) <| Z7 <| Z6 <| Z17 HF rfl (fun HF => ?_) (fun HF => ?_)
    ·refine Zb <| Z1 <| Wa rfl rfl <| Z7 <| Z6 <| Z00 <| Zy <| Zi <| Zi <| Zy <| Zi <| Zt rfl rfl ?_
     obtain rfl := Option.some.inj HF
     exact ⟨_, rfl, h89, S91, rfl⟩
    refine Zm <| Z0a <| Z6 <| Z1 <| Wv rfl (Z3n rfl rfl) <| Wm rfl rfl <| Z7 <| Z2c <| Z7y [1, 2, 15, 16, 17] [(1, sl b62 o63 (xs4).length c58), (2, .func (.func 51) #[] #[]), (15, sl b36 o37 (xs1).length c19), (16, vi (xs1.length : Int)), (17, vi (IntKind.i64.wrap (x25 + 1)))] rfl ?_
    exact IHL27 j26 (Nat.le_refl _) _ _ ⟨h89, IntKind.i64.wrap (x25 + 1), HF, rfl, S91, (le23).trans ((le32).trans ((s47.le).trans ((s54.le).trans ((s73.le).trans ((s81.le).trans s90.le)))))⟩
   intro J93
   refine Z17 HF rfl (fun HF => ?_) (fun HF => ?_)
   ·refine Zm <| Z0g [1, 2, 15, 16, 17] _ rfl ?_
    exact J93 ⟨h21, HF, rfl, S24, Hle.refl _⟩
   refine Z4x <| Zz <| Zz <| Z1a <| Z6 <| Zb <| Z1 <| Wa rfl rfl <| Z7 <| Z6 <| Z00 <| Zt rfl rfl ?_
   obtain rfl := Option.some.inj HF
   exact ⟨_, rfl, h21, S24, rfl⟩
  exact ⟨h14, 0, HF, rfl, S17, Hle.refl _⟩
 intro J94
 refine Zb <| Z1 <| Wm rfl rfl ?_
 obtain ⟨A7, c8, rfl, rs9⟩ := RS.form rs3
 refine Wv rfl (Z1n rfl Z0y) <| Wm rfl rfl ?_
 obtain ⟨A10, c11, rfl, rs12⟩ := RS.form rs6
 refine Wv rfl (Z1n rfl Z0y) <| Wv rfl (Z7e rfl rfl) <| Z7 <| Z6 <| Z17 HF rfl (fun HF => ?_) (fun HF => ?_)
 ·refine Zb <| Z1 <| Wa rfl rfl <| Z7 <| Z6 <| Z00 <| Zi <| Zt rfl rfl ?_
  obtain rfl := Option.some.inj HF
  exact ⟨_, rfl, h0, S0, rfl⟩
 refine Zm <| Z0g [0, 1, 2] _ rfl ?_
 exact J94 ⟨h0, HF, rfl, S0, Hle.refl _⟩
theorem all_ast_SameExpr : ∀ k j, j ≤ k → Z8g (Z0m j).ast_SameExpr ∧ Z7h (Z0m j).ast_SameExprs ∧ Z0s (Z0m j).slices_EqualFunc_api_Expr_api_Expr_api_Expr_api_Expr := by
  intro k
  induction k with
  | zero =>
    intro j hj
    obtain rfl : j = 0 := by omega
    exact ⟨(fun _ _ _ => by intro h; cases h), (fun _ _ _ => by intro h; cases h), (fun _ _ _ => by intro h; cases h)⟩
  | succ k ih =>
    intro j hj
    by_cases h : j ≤ k
    · exact ih j h
    · obtain rfl : j = k + 1 := by omega
      exact ⟨s_ast_SameExpr k ih, s_ast_SameExprs k ih, Z4w k ih⟩
theorem ok_ast_SameExpr (k : Nat) : Z8g (Z9w k) := (all_ast_SameExpr k k (Nat.le_refl _)).1
theorem Zdn (k : Nat) : Z7h (Z66 k) := (all_ast_SameExpr k k (Nat.le_refl _)).2.1
def Z3m (φ : (List ByteArray) → (List ByteArray) → Option Bool) : Prop := ∀ ⦃xs1 : List ByteArray⦄ ⦃xs4 : List ByteArray⦄ ⦃r : Bool⦄, φ xs1 xs4 = some r → ∀ ⦃w0 : World⦄ ⦃h0 : Hp⦄ ⦃v2 : Value⦄ ⦃v5 : Value⦄, Sub h0 w0 → RS h0 v2 xs1 → RS h0 v5 xs4 →
  Calls Tryz.prog 144 #[v2, v5] w0 fun e w1 => ∃ v, e = .returned v ∧ ∃ h1, Stp [] w0 h0 w1 h1 ∧ v = .bool r
theorem Zd3 (k : Nat) (IH : ∀ j, j ≤ k → Z3m (Z0t j).slices_Equal_string_string) : Z3m (Z8a k (Z0t k)) := by
 intro xs1 xs4 r HF w0 h0 v2 v5 hs0 rs3 rs6
 have S0 : Stp [] w0 h0 w0 h0 := Stp.refl hs0 _
 refine Z4j (n := 26) Tryz.func144 rfl Tryz.ntmps144 rfl [(0, v2), (1, v5)] rfl <| Zb <| Z1 <| Wa rfl rfl <| Z7 <| Z6 <| Z09 (fun E w15 => ∃ (h14 : Hp), Z7u k (Z0t k) xs1 xs4 = some r ∧ E = [(0, v2), (1, v5)] ∧ Stp [] w0 h0 w15 h14 ∧ Hle h0 h14) ?_ ?_
 ·rintro E w15 ⟨h14, HF, rfl, S17, le16⟩
  refine Zb <| Zb <| Z1 <| Wm rfl rfl ?_
  obtain ⟨A18, c19, rfl, rs20⟩ := RS.form (rs3.mono (le16))
  refine Wv rfl (Z1n rfl Z3u) <| Wm rfl rfl <| Z7 <| Z6 <| Z0p <| Z4m <| Z7y [0, 1, 12, 13] [(0, .slice A18 (xs1).length c19), (1, v5), (12, vi (xs1.length : Int)), (13, vi 0)] rfl <| Z4k (K := k) (fun j E w22 => ∃ (h21 : Hp) (x25 : Int), (Z0t j).slices_Equal_string_string_l2 xs1 xs4 x25 = some r ∧ E = [(0, .slice A18 (xs1).length c19), (1, v5), (12, vi (xs1.length : Int)), (13, vi x25)] ∧ Stp [] w0 h0 w22 h21 ∧ Hle h14 h21) ?_ ?_ (j := k) (Nat.le_refl _) ?_
  ·rintro E w22 ⟨_, _, HF, _⟩; cases HF
  ·rintro j26 hj28 IHL27 E w22 ⟨h21, x25, HF, rfl, S24, le23⟩
   refine Zb <| Z1 <| Wv rfl (Zbt rfl rfl) <| Z7 <| Z6 <| Z09 (fun E w31 => ∃ (h30 : Hp), Z7t j26 (Z0t j26) xs1 xs4 x25 = some r ∧ E = [(0, .slice A18 (xs1).length c19), (1, v5), (12, vi (xs1.length : Int)), (13, vi x25)] ∧ Stp [] w0 h0 w31 h30 ∧ Hle h21 h30) ?_ ?_
   ·rintro E w31 ⟨h30, HF, rfl, S33, le32⟩
    refine Zb <| Z0p <| Zb <| Z1 <| Wm rfl rfl <| Wa rfl rfl <| Z7 <| Z6 <| Zb ?_
    obtain ⟨e34, he35, HF⟩ := Z8 HF
    obtain ⟨b36, o37, rfl, h39, h40, ra38⟩ := RS.atO (rs20.mono ((le23).trans le32)) he35
    obtain ⟨cs41, r42, hc43⟩ := ra38
    obtain rfl := (show cs41 = _ from r42)
    obtain ⟨A44, c45, rfl, rs46⟩ := RS.form (rs6.mono ((le16).trans ((le23).trans le32)))
    obtain ⟨e47, he48, HF⟩ := Z8 HF
    obtain ⟨b49, o50, rfl, h52, h53, ra51⟩ := RS.atO rs46 he48
    obtain ⟨cs54, r55, hc56⟩ := ra51
    obtain rfl := (show cs54 = _ from r55)
    refine Z2x (m := 8) [(0, sl b36 o37 (xs1).length c19), (1, sl b49 o50 (xs4).length c45), (5, vi x25), (12, vi (xs1.length : Int)), (13, vi x25)] [0, 1, 5, 12, 13] rfl (fun i v w h => match i with | 0 => v = sl b36 o37 (xs1).length c19 | 1 => v = vi x25 | 2 => v = pt b36 (o37 + Int.toNat x25 * 1) | 3 => v = .string e34 | 4 => v = sl b49 o50 (xs4).length c45 | 5 => v = vi x25 | 6 => v = pt b49 (o50 + Int.toNat x25 * 1) | 7 => v = .string e47 | _ => True) Z3f S33.sub rfl rfl rfl rfl rfl ?_ ?_ ?_
    ·intro i v w h w2 h2 hΦ hst
     match i, hΦ with
     | 0, hΦ | 1, hΦ | 2, hΦ | 3, hΦ | 4, hΦ | 5, hΦ | 6, hΦ | 7, hΦ => exact hΦ
     | i + 8, _ => exact trivial
    ·refine ⟨?_, ?_, ?_, ?_, ?_, ?_, ?_, ?_, trivial⟩
     ·intro a w57 h58 s59 hat hF
      exact Z3 hat rfl (Zu rfl) s59.sub (by exact rfl)
     ·intro a w57 h58 s59 hat hF
      exact Z3 hat rfl (Zu rfl) s59.sub (by exact rfl)
     ·intro a w57 h58 s59 hat hF
      exact Z3 (Z0 (Z0 hat (hF 0 16 rfl rfl)) (hF 1 17 rfl rfl)) rfl (Z07 rfl rfl Z3u t_size_9 h39 h40) s59.sub (by exact rfl)
     ·intro a w57 h58 s59 hat hF
      exact Z3 (Z0 hat (hF 2 18 rfl rfl)) rfl (Zc rfl Z2r (s59.sub.at_ _ _ _ ((fun i v hv => (s59.le).1 _ _ _ (hc43 i v hv)) 0 _ rfl))) s59.sub (by exact rfl)
     ·intro a w57 h58 s59 hat hF
      exact Z3 hat rfl (Zu rfl) s59.sub (by exact rfl)
     ·intro a w57 h58 s59 hat hF
      exact Z3 hat rfl (Zu rfl) s59.sub (by exact rfl)
     ·intro a w57 h58 s59 hat hF
      exact Z3 (Z0 (Z0 hat (hF 4 20 rfl rfl)) (hF 5 21 rfl rfl)) rfl (Z07 rfl rfl Z3u t_size_9 h52 h53) s59.sub (by exact rfl)
     intro a w57 h58 s59 hat hF
     exact Z3 (Z0 hat (hF 6 22 rfl rfl)) rfl (Zc rfl Z2r (s59.sub.at_ _ _ _ ((fun i v hv => (s59.le).1 _ _ _ (hc56 i v hv)) 0 _ rfl))) s59.sub (by exact rfl)
    intro a w57 h58 s59 hat hF
    obtain hv0 := hF 0 16 (by decide) rfl
    obtain hv1 := hF 1 17 (by decide) rfl
    obtain hv2 := hF 2 18 (by decide) rfl
    obtain hv3 := hF 3 19 (by decide) rfl
    obtain hv4 := hF 4 20 (by decide) rfl
    obtain hv5 := hF 5 21 (by decide) rfl
    obtain hv6 := hF 6 22 (by decide) rfl
    obtain hv7 := hF 7 23 (by decide) rfl
    refine Z7z [(23, .string e47), (22, pt b49 (o50 + Int.toNat x25 * 1)), (21, vi x25), (20, sl b49 o50 (xs4).length c45), (19, .string e34), (18, pt b36 (o37 + Int.toNat x25 * 1)), (17, vi x25), (16, sl b36 o37 (xs1).length c19), (0, sl b36 o37 (xs1).length c19), (1, sl b49 o50 (xs4).length c45), (5, vi x25), (12, vi (xs1.length : Int)), (13, vi x25)] (Z0 (Z0 (Z0 (Z0 (Z0 (Z0 (Z0 (Z0 hat hv0) hv1) hv2) hv3) hv4) hv5) hv6) hv7) ?_
    have S60 := S33.trans0 s59
    refine Wv rfl (ov_neqS rfl rfl) <| Z7 <| Z6 <| Z17 HF rfl (fun HF => ?_) (fun HF => ?_)
    ·refine Zb <| Z1 <| Wa rfl rfl <| Z7 <| Z6 <| Z00 <| Zy <| Zi <| Zi <| Zy <| Zi <| Zt rfl rfl ?_
     obtain rfl := Option.some.inj HF
     exact ⟨_, rfl, h58, S60, rfl⟩
    refine Zm <| Z0a <| Z6 <| Z1 <| Wv rfl (Z3n rfl rfl) <| Wm rfl rfl <| Z7 <| Z2c <| Z7y [0, 1, 12, 13] [(0, sl b36 o37 (xs1).length c19), (1, sl b49 o50 (xs4).length c45), (12, vi (xs1.length : Int)), (13, vi (IntKind.i64.wrap (x25 + 1)))] rfl ?_
    exact IHL27 j26 (Nat.le_refl _) _ _ ⟨h58, IntKind.i64.wrap (x25 + 1), HF, rfl, S60, (le23).trans ((le32).trans s59.le)⟩
   intro J62
   refine Z17 HF rfl (fun HF => ?_) (fun HF => ?_)
   ·refine Zm <| Z0g [0, 1, 12, 13] _ rfl ?_
    exact J62 ⟨h21, HF, rfl, S24, Hle.refl _⟩
   refine Z4x <| Zz <| Zz <| Z1a <| Z6 <| Zb <| Z1 <| Wa rfl rfl <| Z7 <| Z6 <| Z00 <| Zt rfl rfl ?_
   obtain rfl := Option.some.inj HF
   exact ⟨_, rfl, h21, S24, rfl⟩
  exact ⟨h14, 0, HF, rfl, S17, Hle.refl _⟩
 intro J63
 refine Zb <| Z1 <| Wm rfl rfl ?_
 obtain ⟨A7, c8, rfl, rs9⟩ := RS.form rs3
 refine Wv rfl (Z1n rfl Z3u) <| Wm rfl rfl ?_
 obtain ⟨A10, c11, rfl, rs12⟩ := RS.form rs6
 refine Wv rfl (Z1n rfl Z3u) <| Wv rfl (Z7e rfl rfl) <| Z7 <| Z6 <| Z17 HF rfl (fun HF => ?_) (fun HF => ?_)
 ·refine Zb <| Z1 <| Wa rfl rfl <| Z7 <| Z6 <| Z00 <| Zi <| Zt rfl rfl ?_
  obtain rfl := Option.some.inj HF
  exact ⟨_, rfl, h0, S0, rfl⟩
 refine Zm <| Z0g [0, 1] _ rfl ?_
 exact J63 ⟨h0, HF, rfl, S0, Hle.refl _⟩
theorem Zc5 : ∀ k j, j ≤ k → Z3m (Z0t j).slices_Equal_string_string := by
  intro k
  induction k with
  | zero =>
    intro j hj
    obtain rfl : j = 0 := by omega
    exact (fun _ _ _ => by intro h; cases h)
  | succ k ih =>
    intro j hj
    by_cases h : j ≤ k
    · exact ih j h
    · obtain rfl : j = k + 1 := by omega
      exact Zd3 k ih
theorem Zd1 (k : Nat) : Z3m (Z57 k) := (Zc5 k k (Nat.le_refl _))
def Z5y (φ : (List St) → (List St) → Option Bool) : Prop := ∀ ⦃xs1 : List St⦄ ⦃xs4 : List St⦄ ⦃r : Bool⦄, φ xs1 xs4 = some r → ∀ ⦃w0 : World⦄ ⦃h0 : Hp⦄ ⦃v2 : Value⦄ ⦃v5 : Value⦄, Sub h0 w0 → RS h0 v2 xs1 → RS h0 v5 xs4 →
  Calls Tryz.prog 50 #[v2, v5] w0 fun e w1 => ∃ v, e = .returned v ∧ ∃ h1, Stp [] w0 h0 w1 h1 ∧ v = .bool r
def Z79 (φ : St → St → Option Bool) : Prop := ∀ ⦃x1 : St⦄ ⦃x4 : St⦄ ⦃r : Bool⦄, φ x1 x4 = some r → ∀ ⦃w0 : World⦄ ⦃h0 : Hp⦄ ⦃cs2 : List Value⦄ ⦃cs5 : List Value⦄, Sub h0 w0 → Rp.R h0 x1 cs2 → Rp.R h0 x4 cs5 →
  Calls Tryz.prog 87 #[.agg cs2.toArray, .agg cs5.toArray] w0 fun e w1 => ∃ v, e = .returned v ∧ ∃ h1, Stp [] w0 h0 w1 h1 ∧ v = .bool r
def Z59 (φ : Ar → Ar → Option Bool) : Prop := ∀ ⦃x1 : Ar⦄ ⦃x4 : Ar⦄ ⦃r : Bool⦄, φ x1 x4 = some r → ∀ ⦃w0 : World⦄ ⦃h0 : Hp⦄ ⦃cs2 : List Value⦄ ⦃cs5 : List Value⦄, Sub h0 w0 → Rp.R h0 x1 cs2 → Rp.R h0 x4 cs5 →
  Calls Tryz.prog 146 #[.agg cs2.toArray, .agg cs5.toArray] w0 fun e w1 => ∃ v, e = .returned v ∧ ∃ h1, Stp [] w0 h0 w1 h1 ∧ v = .bool r
def Z0e (φ : (List Ar) → (List Ar) → Option Bool) : Prop := ∀ ⦃xs1 : List Ar⦄ ⦃xs4 : List Ar⦄ ⦃r : Bool⦄, φ xs1 xs4 = some r → ∀ ⦃w0 : World⦄ ⦃h0 : Hp⦄ ⦃v2 : Value⦄ ⦃v5 : Value⦄, Sub h0 w0 → RS h0 v2 xs1 → RS h0 v5 xs4 →
  Calls Tryz.prog 145 #[v2, v5, .func (.func 146) #[] #[]] w0 fun e w1 => ∃ v, e = .returned v ∧ ∃ h1, Stp [] w0 h0 w1 h1 ∧ v = .bool r
def Z06 (φ : (List St) → (List St) → Option Bool) : Prop := ∀ ⦃xs1 : List St⦄ ⦃xs4 : List St⦄ ⦃r : Bool⦄, φ xs1 xs4 = some r → ∀ ⦃w0 : World⦄ ⦃h0 : Hp⦄ ⦃v2 : Value⦄ ⦃v5 : Value⦄, Sub h0 w0 → RS h0 v2 xs1 → RS h0 v5 xs4 →
  Calls Tryz.prog 86 #[v2, v5, .func (.func 87) #[] #[]] w0 fun e w1 => ∃ v, e = .returned v ∧ ∃ h1, Stp [] w0 h0 w1 h1 ∧ v = .bool r
theorem s_ast_SameText (k : Nat) (IH : ∀ j, j ≤ k → Z5y (Zl j).ast_SameText ∧ Z79 (Zl j).ast_sameStmt ∧ Z59 (Zl j).ast_sameStmt_1 ∧ Z0e (Zl j).slices_EqualFunc_api_Arm_api_Arm_api_Arm_api_Arm ∧ Z06 (Zl j).slices_EqualFunc_api_Stmt_api_Stmt_api_Stmt_api_Stmt) : Z5y (m_ast_SameText k (Zl k)) := by
 intro xs1 xs4 r HF w0 h0 v2 v5 hs0 rs3 rs6
 have S0 : Stp [] w0 h0 w0 h0 := Stp.refl hs0 _
 refine Z4j (n := 8) Tryz.func50 rfl Tryz.ntmps50 rfl [(0, v2), (1, v5)] rfl <| Zb <| Z1 <| Wa rfl rfl <| Z7 <| Z6 <| Zb <| Z1 <| Wm rfl rfl <| Wm rfl rfl ?_
 obtain ⟨r7, hr8, HF⟩ := Z8 HF
 refine Wc rfl (Ze (vs := [v2, v5, .func (.func 87) #[] #[]]) rfl t_ent_86) ((IH _ (Nat.le_refl _)).2.2.2.2 hr8 S0.sub rs3 rs6) ?_
 rintro _ w10 ⟨h11, s12, rfl⟩
 have S13 := S0.trans0 s12
 refine Wa rfl rfl <| Z7 <| Z6 <| Z00 <| Zt rfl rfl ?_
 obtain rfl := Option.some.inj HF
 exact ⟨_, rfl, h11, S13, rfl⟩
theorem s_ast_sameStmt (k : Nat) (IH : ∀ j, j ≤ k → Z5y (Zl j).ast_SameText ∧ Z79 (Zl j).ast_sameStmt ∧ Z59 (Zl j).ast_sameStmt_1 ∧ Z0e (Zl j).slices_EqualFunc_api_Arm_api_Arm_api_Arm_api_Arm ∧ Z06 (Zl j).slices_EqualFunc_api_Stmt_api_Stmt_api_Stmt_api_Stmt) : Z79 (Zcv k (Zl k)) := by
 intro x1 x4 r HF w0 h0 cs2 cs5 hs0 r3 r6
 have S0 : Stp [] w0 h0 w0 h0 := Stp.refl hs0 _
 refine Z4j (n := 73) Tryz.func87 rfl Tryz.ntmps87 rfl [(0, .agg cs2.toArray), (1, .agg cs5.toArray)] rfl <| Zb <| Z1 ?_
 obtain ⟨v7, v9, v11, v13, v15, v17, rfl, rs8, rs10, rs12, rs14, rs16, rs18⟩ := Zgz.1 r3
 refine Zhq (cs := [vi x1.op, .string x1.name, v7, v9, v11, vi x1.n, v13, v15, v17, .bool x1.els]) rfl rfl rfl rfl S0.sub (fun w19 b20 hb21 s22 ob23 => ?_)
 have g24 : w0.heap.size ≤ b20 := by rw [hb21]; exact S0.size
 have S25 := S0.trans0 s22
 obtain ⟨v26, v28, v30, v32, v34, v36, rfl, rs27, rs29, rs31, rs33, rs35, rs37⟩ := Zgz.1 (Rp.mono (s22.le) r6)
 refine Zhq (cs := [vi x4.op, .string x4.name, v26, v28, v30, vi x4.n, v32, v34, v36, .bool x4.els]) rfl rfl rfl rfl S25.sub (fun w38 b39 hb40 s41 ob42 => ?_)
 have ne43 : b20 ≠ b39 := ob23.ne_new hb40
 have g44 : w0.heap.size ≤ b39 := by rw [hb40]; exact S25.size
 have S45 := S25.trans0 s41
 refine Wa rfl rfl <| Z7 <| Z6 <| Zb <| Z1 <| Wv rfl (Z2 rfl Z45) ?_
 have ob46 := (ob23.step0 s41)
 refine Wv rfl (Zc rfl Z0f (OB.cell ob46 (j := 0) rfl)) <| Wv rfl (Z2 rfl Z45) <| Wv rfl (Zc rfl Z0f (OB.cell ob42 (j := 0) rfl)) <| Wv rfl (Z4n rfl rfl) <| Wm rfl rfl <| Z3g 10 HF rfl (fun HF => ?_) (fun HF => ?_)
 ·refine Wv rfl (Z2 rfl Zdc) <| Wv rfl (Zc rfl Z2r (OB.cell ob46 (j := 1) rfl)) <| Wv rfl (Z2 rfl Zdc) <| Wv rfl (Zc rfl Z2r (OB.cell ob42 (j := 1) rfl)) <| Wv rfl (Z0d rfl rfl) <| Wv rfl (Zh rfl rfl) <| Wm rfl rfl <| Z3g 17 HF rfl (fun HF => ?_) (fun HF => ?_)
  ·refine Wv rfl (Z2 rfl Z5d) <| Wv rfl (Zc rfl Z0f (OB.cell ob46 (j := 5) rfl)) <| Wv rfl (Z2 rfl Z5d) <| Wv rfl (Zc rfl Z0f (OB.cell ob42 (j := 5) rfl)) <| Wv rfl (Z4n rfl rfl) <| Wv rfl (Zh rfl rfl) <| Wm rfl rfl <| Z3g 24 HF rfl (fun HF => ?_) (fun HF => ?_)
   ·refine Wv rfl (Z2 rfl Z5a) <| Wv rfl (Zc rfl Zea (OB.cell ob46 (j := 9) rfl)) <| Wv rfl (Z2 rfl Z5a) <| Wv rfl (Zc rfl Zea (OB.cell ob42 (j := 9) rfl)) <| Wv rfl (ov_eqlB rfl rfl Zf9) <| Wv rfl (Zh rfl rfl) <| Wm rfl rfl <| Z3g 31 HF rfl (fun HF => ?_) (fun HF => ?_)
    ·refine Wv rfl (Z2 rfl Z78) <| Wv rfl (Zc rfl t_agg_53 (OB.cell ob46 (j := 3) rfl)) <| Wv rfl (Z2 rfl Z78) <| Wv rfl (Zc rfl t_agg_53 (OB.cell ob42 (j := 3) rfl)) ?_
     obtain ⟨r51, hr52, HF⟩ := Z8 HF
     refine Wc rfl (Ze (vs := [v9, v28]) rfl t_ent_144) (Zd1 _ hr52 S45.sub (rs10.mono ((s22.le).trans s41.le)) (rs29.mono (s41.le))) ?_
     rintro _ w54 ⟨h55, s56, rfl⟩
     have S57 := S45.trans0 s56
     refine Wv rfl (Zh rfl rfl) <| Wm rfl rfl <| Z3g 38 HF rfl (fun HF => ?_) (fun HF => ?_)
     ·refine Wv rfl (Z2 rfl Z6z) ?_
      have ob59 := (ob46.step0 s56)
      refine Wv rfl (Zc rfl Z2k (OB.cell ob59 (j := 2) rfl)) <| Wv rfl (Z2 rfl Z6z) ?_
      have ob60 := (ob42.step0 s56)
      refine Wv rfl (Zc rfl Z2k (OB.cell ob60 (j := 2) rfl)) ?_
      obtain ⟨r61, hr62, HF⟩ := Z8 HF
      refine Wc rfl (Ze (vs := [v7, v26]) rfl t_ent_88) (Zdn _ hr62 S57.sub (rs8.mono ((s22.le).trans ((s41.le).trans s56.le))) (rs27.mono ((s41.le).trans s56.le))) ?_
      rintro _ w64 ⟨h65, s66, rfl⟩
      have S67 := S57.trans0 s66
      refine Wv rfl (Zh rfl rfl) <| Wm rfl rfl <| Z3g 45 HF rfl (fun HF => ?_) (fun HF => ?_)
      ·refine Wv rfl (Z2 rfl Z3o) ?_
       have ob69 := (ob59.step0 s66)
       refine Wv rfl (Zc rfl Z2k (OB.cell ob69 (j := 4) rfl)) <| Wv rfl (Z2 rfl Z3o) ?_
       have ob70 := (ob60.step0 s66)
       refine Wv rfl (Zc rfl Z2k (OB.cell ob70 (j := 4) rfl)) ?_
       obtain ⟨r71, hr72, HF⟩ := Z8 HF
       refine Wc rfl (Ze (vs := [v11, v30]) rfl t_ent_88) (Zdn _ hr72 S67.sub (rs12.mono ((s22.le).trans ((s41.le).trans ((s56.le).trans s66.le)))) (rs31.mono ((s41.le).trans ((s56.le).trans s66.le)))) ?_
       rintro _ w74 ⟨h75, s76, rfl⟩
       have S77 := S67.trans0 s76
       refine Wv rfl (Zh rfl rfl) <| Wm rfl rfl <| Z3g 52 HF rfl (fun HF => ?_) (fun HF => ?_)
       ·refine Wv rfl (Z2 rfl Z65) ?_
        have ob79 := (ob69.step0 s76)
        refine Wv rfl (Zc rfl Z4f (OB.cell ob79 (j := 6) rfl)) <| Wv rfl (Z2 rfl Z65) ?_
        have ob80 := (ob70.step0 s76)
        refine Wv rfl (Zc rfl Z4f (OB.cell ob80 (j := 6) rfl)) ?_
        obtain ⟨r81, hr82, HF⟩ := Z8 HF
        refine Wc rfl (Ze (vs := [v13, v32]) rfl t_ent_50) ((IH _ (Nat.le_refl _)).1 hr82 S77.sub (rs14.mono ((s22.le).trans ((s41.le).trans ((s56.le).trans ((s66.le).trans s76.le))))) (rs33.mono ((s41.le).trans ((s56.le).trans ((s66.le).trans s76.le))))) ?_
        rintro _ w84 ⟨h85, s86, rfl⟩
        have S87 := S77.trans0 s86
        refine Wv rfl (Zh rfl rfl) <| Wm rfl rfl <| Z3g 59 HF rfl (fun HF => ?_) (fun HF => ?_)
        ·refine Wv rfl (Z2 rfl Z5f) ?_
         have ob89 := (ob79.step0 s86)
         refine Wv rfl (Zc rfl Z4f (OB.cell ob89 (j := 8) rfl)) <| Wv rfl (Z2 rfl Z5f) ?_
         have ob90 := (ob80.step0 s86)
         refine Wv rfl (Zc rfl Z4f (OB.cell ob90 (j := 8) rfl)) ?_
         obtain ⟨r91, hr92, HF⟩ := Z8 HF
         refine Wc rfl (Ze (vs := [v17, v36]) rfl t_ent_50) ((IH _ (Nat.le_refl _)).1 hr92 S87.sub (rs18.mono ((s22.le).trans ((s41.le).trans ((s56.le).trans ((s66.le).trans ((s76.le).trans s86.le)))))) (rs37.mono ((s41.le).trans ((s56.le).trans ((s66.le).trans ((s76.le).trans s86.le)))))) ?_
         rintro _ w94 ⟨h95, s96, rfl⟩
         have S97 := S87.trans0 s96
         refine Wv rfl (Zh rfl rfl) <| Wm rfl rfl <| Z3g 66 HF rfl (fun HF => ?_) (fun HF => ?_)
         ·refine Wv rfl (Z2 rfl Z19) ?_
          have ob99 := (ob89.step0 s96)
          refine Wv rfl (Zc rfl Z4b (OB.cell ob99 (j := 7) rfl)) <| Wv rfl (Z2 rfl Z19) ?_
          have ob100 := (ob90.step0 s96)
          refine Wv rfl (Zc rfl Z4b (OB.cell ob100 (j := 7) rfl)) ?_
          obtain ⟨r101, hr102, HF⟩ := Z8 HF
          refine Wc rfl (Ze (vs := [v15, v34, .func (.func 146) #[] #[]]) rfl t_ent_145) ((IH _ (Nat.le_refl _)).2.2.2.1 hr102 S97.sub (rs16.mono ((s22.le).trans ((s41.le).trans ((s56.le).trans ((s66.le).trans ((s76.le).trans ((s86.le).trans s96.le))))))) (rs35.mono ((s41.le).trans ((s56.le).trans ((s66.le).trans ((s76.le).trans ((s86.le).trans s96.le))))))) ?_
          rintro _ w104 ⟨h105, s106, rfl⟩
          have S107 := S97.trans0 s106
          refine Wv rfl (Zh rfl rfl) <| Wa rfl rfl <| Z7 <| Z6 <| Z00 <| Zt rfl rfl ?_
          obtain rfl := Option.some.inj HF
          exact ⟨_, rfl, h105, S107, rfl⟩
         refine Wp rfl <| Wp rfl <| Wp rfl <| Wp rfl <| Wp rfl <| Wv rfl (Zg rfl rfl) <| Wa rfl rfl <| Z7 <| Z6 <| Z00 <| Zt rfl rfl ?_
         obtain rfl := Option.some.inj HF
         exact ⟨_, rfl, h95, S97, rfl⟩
        refine Wp rfl <| Wp rfl <| Wp rfl <| Wp rfl <| Wp rfl <| Wv rfl (Zg rfl rfl) <| Wm rfl rfl <| Wp rfl <| Wp rfl <| Wp rfl <| Wp rfl <| Wp rfl <| Wv rfl (Zg rfl rfl) <| Wa rfl rfl <| Z7 <| Z6 <| Z00 <| Zt rfl rfl ?_
        obtain rfl := Option.some.inj HF
        exact ⟨_, rfl, h85, S87, rfl⟩
       refine Wp rfl <| Wp rfl <| Wp rfl <| Wp rfl <| Wp rfl <| Wv rfl (Zg rfl rfl) <| Wm rfl rfl <| Wp rfl <| Wp rfl <| Wp rfl <| Wp rfl <| Wp rfl <| Wv rfl (Zg rfl rfl) <| Wm rfl rfl <| Wp rfl <| Wp rfl <| Wp rfl <| Wp rfl <| Wp rfl <| Wv rfl (Zg rfl rfl) <| Wa rfl rfl <| Z7 <| Z6 <| Z00 <| Zt rfl rfl ?_
       obtain rfl := Option.some.inj HF
       exact ⟨_, rfl, h75, S77, rfl⟩
      refine Wp rfl <| Wp rfl <| Wp rfl <| Wp rfl <| Wp rfl <| Wv rfl (Zg rfl rfl) <| Wm rfl rfl <| Wp rfl <| Wp rfl <| Wp rfl <| Wp rfl <| Wp rfl <| Wv rfl (Zg rfl rfl) <| Wm rfl rfl <| Wp rfl <| Wp rfl <| Wp rfl <| Wp rfl <| Wp rfl <| Wv rfl (Zg rfl rfl) <| Wm rfl rfl <| Wp rfl <| Wp rfl <| Wp rfl <| Wp rfl <| Wp rfl <| Wv rfl (Zg rfl rfl) <| Wa rfl rfl <| Z7 <| Z6 <| Z00 <| Zt rfl rfl ?_
      obtain rfl := Option.some.inj HF
      exact ⟨_, rfl, h65, S67, rfl⟩
     refine Wp rfl <| Wp rfl <| Wp rfl <| Wp rfl <| Wp rfl <| Wv rfl (Zg rfl rfl) <| Wm rfl rfl <| Wp rfl <| Wp rfl <| Wp rfl <| Wp rfl <| Wp rfl <| Wv rfl (Zg rfl rfl) <| Wm rfl rfl <| Wp rfl <| Wp rfl <| Wp rfl <| Wp rfl <| Wp rfl <| Wv rfl (Zg rfl rfl) <| Wm rfl rfl <| Wp rfl <| Wp rfl <| Wp rfl <| Wp rfl <| Wp rfl <| Wv rfl (Zg rfl rfl) <| Wm rfl rfl <| Wp rfl <| Wp rfl <| Wp rfl <| Wp rfl <| Wp rfl <| Wv rfl (Zg rfl rfl) <| Wa rfl rfl <| Z7 <| Z6 <| Z00 <| Zt rfl rfl ?_
     obtain rfl := Option.some.inj HF
     exact ⟨_, rfl, h55, S57, rfl⟩
    refine Wp rfl <| Wp rfl <| Wp rfl <| Wp rfl <| Wp rfl <| Wv rfl (Zg rfl rfl) <| Wm rfl rfl <| Wp rfl <| Wp rfl <| Wp rfl <| Wp rfl <| Wp rfl <| Wv rfl (Zg rfl rfl) <| Wm rfl rfl <| Wp rfl <| Wp rfl <| Wp rfl <| Wp rfl <| Wp rfl <| Wv rfl (Zg rfl rfl) <| Wm rfl rfl <| Wp rfl <| Wp rfl <| Wp rfl <| Wp rfl <| Wp rfl <| Wv rfl (Zg rfl rfl) <| Wm rfl rfl <| Wp rfl <| Wp rfl <| Wp rfl <| Wp rfl <| Wp rfl <| Wv rfl (Zg rfl rfl) <| Wm rfl rfl <| Wp rfl <| Wp rfl <| Wp rfl <| Wp rfl <| Wp rfl <| Wv rfl (Zg rfl rfl) <| Wa rfl rfl <| Z7 <| Z6 <| Z00 <| Zt rfl rfl ?_
    obtain rfl := Option.some.inj HF
    exact ⟨_, rfl, h0, S45, rfl⟩
   refine Wp rfl <| Wp rfl <| Wp rfl <| Wp rfl <| Wp rfl <| Wv rfl (Zg rfl rfl) <| Wm rfl rfl <| Wp rfl <| Wp rfl <| Wp rfl <| Wp rfl <| Wp rfl <| Wv rfl (Zg rfl rfl) <| Wm rfl rfl <| Wp rfl <| Wp rfl <| Wp rfl <| Wp rfl <| Wp rfl <| Wv rfl (Zg rfl rfl) <| Wm rfl rfl <| Wp rfl <| Wp rfl <| Wp rfl <| Wp rfl <| Wp rfl <| Wv rfl (Zg rfl rfl) <| Wm rfl rfl <| Wp rfl <| Wp rfl <| Wp rfl <| Wp rfl <| Wp rfl <| Wv rfl (Zg rfl rfl) <| Wm rfl rfl <| Wp rfl <| Wp rfl <| Wp rfl <| Wp rfl <| Wp rfl <| Wv rfl (Zg rfl rfl) <| Wm rfl rfl <| Wp rfl <| Wp rfl <| Wp rfl <| Wp rfl <| Wp rfl <| Wv rfl (Zg rfl rfl) <| Wa rfl rfl <| Z7 <| Z6 <| Z00 <| Zt rfl rfl ?_
   obtain rfl := Option.some.inj HF
   exact ⟨_, rfl, h0, S45, rfl⟩
  refine Wp rfl <| Wp rfl <| Wp rfl <| Wp rfl <| Wp rfl <| Wv rfl (Zg rfl rfl) <| Wm rfl rfl <| Wp rfl <| Wp rfl <| Wp rfl <| Wp rfl <| Wp rfl <| Wv rfl (Zg rfl rfl) <| Wm rfl rfl <| Wp rfl <| Wp rfl <| Wp rfl <| Wp rfl <| Wp rfl <| Wv rfl (Zg rfl rfl) <| Wm rfl rfl <| Wp rfl <| Wp rfl <| Wp rfl <| Wp rfl <| Wp rfl <| Wv rfl (Zg rfl rfl) <| Wm rfl rfl <| Wp rfl <| Wp rfl <| Wp rfl <| Wp rfl <| Wp rfl <| Wv rfl (Zg rfl rfl) <| Wm rfl rfl <| Wp rfl <| Wp rfl <| Wp rfl <| Wp rfl <| Wp rfl <| Wv rfl (Zg rfl rfl) <| Wm rfl rfl <| Wp rfl <| Wp rfl <| Wp rfl <| Wp rfl <| Wp rfl <| Wv rfl (Zg rfl rfl) <| Wm rfl rfl <| Wp rfl <| Wp rfl <| Wp rfl <| Wp rfl <| Wp rfl <| Wv rfl (Zg rfl rfl) ?_
  refine Wa rfl rfl <| Z7 <| Z6 <| Z00 <| Zt rfl rfl ?_
  obtain rfl := Option.some.inj HF
  exact ⟨_, rfl, h0, S45, rfl⟩
 refine Wp rfl <| Wp rfl <| Wp rfl <| Wp rfl <| Wp rfl <| Wv rfl (Zg rfl rfl) <| Wm rfl rfl <| Wp rfl <| Wp rfl <| Wp rfl <| Wp rfl <| Wp rfl <| Wv rfl (Zg rfl rfl) <| Wm rfl rfl <| Wp rfl <| Wp rfl <| Wp rfl <| Wp rfl <| Wp rfl <| Wv rfl (Zg rfl rfl) <| Wm rfl rfl <| Wp rfl <| Wp rfl <| Wp rfl <| Wp rfl <| Wp rfl <| Wv rfl (Zg rfl rfl) <| Wm rfl rfl <| Wp rfl <| Wp rfl <| Wp rfl <| Wp rfl <| Wp rfl <| Wv rfl (Zg rfl rfl) <| Wm rfl rfl <| Wp rfl <| Wp rfl <| Wp rfl <| Wp rfl <| Wp rfl <| Wv rfl (Zg rfl rfl) <| Wm rfl rfl <| Wp rfl <| Wp rfl <| Wp rfl <| Wp rfl <| Wp rfl <| Wv rfl (Zg rfl rfl) <| Wm rfl rfl <| Wp rfl <| Wp rfl <| Wp rfl <| Wp rfl <| Wp rfl <| Wv rfl (Zg rfl rfl) ?_
 refine Wm rfl rfl <| Wp rfl <| Wp rfl <| Wp rfl <| Wp rfl <| Wp rfl <| Wv rfl (Zg rfl rfl) <| Wa rfl rfl <| Z7 <| Z6 <| Z00 <| Zt rfl rfl ?_
 obtain rfl := Option.some.inj HF
 exact ⟨_, rfl, h0, S45, rfl⟩
theorem s_ast_sameStmt_1 (k : Nat) (IH : ∀ j, j ≤ k → Z5y (Zl j).ast_SameText ∧ Z79 (Zl j).ast_sameStmt ∧ Z59 (Zl j).ast_sameStmt_1 ∧ Z0e (Zl j).slices_EqualFunc_api_Arm_api_Arm_api_Arm_api_Arm ∧ Z06 (Zl j).slices_EqualFunc_api_Stmt_api_Stmt_api_Stmt_api_Stmt) : Z59 (m_ast_sameStmt_1 k (Zl k)) := by
 intro x1 x4 r HF w0 h0 cs2 cs5 hs0 r3 r6
 have S0 : Stp [] w0 h0 w0 h0 := Stp.refl hs0 _
 refine Z4j (n := 24) Tryz.func146 rfl Tryz.ntmps146 rfl [(0, .agg cs2.toArray), (1, .agg cs5.toArray)] rfl <| Zb <| Z1 ?_
 obtain ⟨v7, v9, v11, rfl, rs8, rs10, rs12⟩ := rp_Ar.1 r3
 refine Zhq (cs := [v7, v9, v11]) rfl rfl rfl rfl S0.sub (fun w13 b14 hb15 s16 ob17 => ?_)
 have g18 : w0.heap.size ≤ b14 := by rw [hb15]; exact S0.size
 have S19 := S0.trans0 s16
 obtain ⟨v20, v22, v24, rfl, rs21, rs23, rs25⟩ := rp_Ar.1 (Rp.mono (s16.le) r6)
 refine Zhq (cs := [v20, v22, v24]) rfl rfl rfl rfl S19.sub (fun w26 b27 hb28 s29 ob30 => ?_)
 have ne31 : b14 ≠ b27 := ob17.ne_new hb28
 have g32 : w0.heap.size ≤ b27 := by rw [hb28]; exact S19.size
 have S33 := S19.trans0 s29
 refine Wa rfl rfl <| Z7 <| Z6 <| Zb <| Z1 <| Wv rfl (Z2 rfl Z40) ?_
 have ob34 := (ob17.step0 s29)
 refine Wv rfl (Zc rfl Z2k (OB.cell ob34 (j := 0) rfl)) <| Wv rfl (Z2 rfl Z40) <| Wv rfl (Zc rfl Z2k (OB.cell ob30 (j := 0) rfl)) ?_
 obtain ⟨r35, hr36, HF⟩ := Z8 HF
 refine Wc rfl (Ze (vs := [v7, v20]) rfl t_ent_88) (Zdn _ hr36 S33.sub (rs8.mono ((s16.le).trans s29.le)) (rs21.mono (s29.le))) ?_
 rintro _ w38 ⟨h39, s40, rfl⟩
 have S41 := S33.trans0 s40
 refine Wm rfl rfl <| Z3g 10 HF rfl (fun HF => ?_) (fun HF => ?_)
 ·refine Wv rfl (Z2 rfl Z42) ?_
  have ob43 := (ob34.step0 s40)
  refine Wv rfl (Zc rfl Zc4 (OB.cell ob43 (j := 1) rfl)) <| Wv rfl (Z2 rfl Z42) ?_
  have ob44 := (ob30.step0 s40)
  refine Wv rfl (Zc rfl Zc4 (OB.cell ob44 (j := 1) rfl)) ?_
  obtain ⟨r45, hr46, HF⟩ := Z8 HF
  refine Wc rfl (Ze (vs := [v9, v22]) rfl t_ent_147) (Zhg _ hr46 S41.sub (rs10.mono ((s16.le).trans ((s29.le).trans s40.le))) (rs23.mono ((s29.le).trans s40.le))) ?_
  rintro _ w48 ⟨h49, s50, rfl⟩
  have S51 := S41.trans0 s50
  refine Wv rfl (Zh rfl rfl) <| Wm rfl rfl <| Z3g 17 HF rfl (fun HF => ?_) (fun HF => ?_)
  ·refine Wv rfl (Z2 rfl Z8c) ?_
   have ob53 := (ob43.step0 s50)
   refine Wv rfl (Zc rfl Z4f (OB.cell ob53 (j := 2) rfl)) <| Wv rfl (Z2 rfl Z8c) ?_
   have ob54 := (ob44.step0 s50)
   refine Wv rfl (Zc rfl Z4f (OB.cell ob54 (j := 2) rfl)) ?_
   obtain ⟨r55, hr56, HF⟩ := Z8 HF
   refine Wc rfl (Ze (vs := [v11, v24]) rfl t_ent_50) ((IH _ (Nat.le_refl _)).1 hr56 S51.sub (rs12.mono ((s16.le).trans ((s29.le).trans ((s40.le).trans s50.le)))) (rs25.mono ((s29.le).trans ((s40.le).trans s50.le)))) ?_
   rintro _ w58 ⟨h59, s60, rfl⟩
   have S61 := S51.trans0 s60
   refine Wv rfl (Zh rfl rfl) <| Wa rfl rfl <| Z7 <| Z6 <| Z00 <| Zt rfl rfl ?_
   obtain rfl := Option.some.inj HF
   exact ⟨_, rfl, h59, S61, rfl⟩
  refine Wp rfl <| Wp rfl <| Wp rfl <| Wp rfl <| Wp rfl <| Wv rfl (Zg rfl rfl) <| Wa rfl rfl <| Z7 <| Z6 <| Z00 <| Zt rfl rfl ?_
  obtain rfl := Option.some.inj HF
  exact ⟨_, rfl, h49, S51, rfl⟩
 refine Wp rfl <| Wp rfl <| Wp rfl <| Wp rfl <| Wp rfl <| Wv rfl (Zg rfl rfl) <| Wm rfl rfl <| Wp rfl <| Wp rfl <| Wp rfl <| Wp rfl <| Wp rfl <| Wv rfl (Zg rfl rfl) <| Wa rfl rfl <| Z7 <| Z6 <| Z00 <| Zt rfl rfl ?_
 obtain rfl := Option.some.inj HF
 exact ⟨_, rfl, h39, S41, rfl⟩
theorem Z5q (k : Nat) (IH : ∀ j, j ≤ k → Z5y (Zl j).ast_SameText ∧ Z79 (Zl j).ast_sameStmt ∧ Z59 (Zl j).ast_sameStmt_1 ∧ Z0e (Zl j).slices_EqualFunc_api_Arm_api_Arm_api_Arm_api_Arm ∧ Z06 (Zl j).slices_EqualFunc_api_Stmt_api_Stmt_api_Stmt_api_Stmt) : Z0e (Z32 k (Zl k)) := by
 intro xs1 xs4 r HF w0 h0 v2 v5 hs0 rs3 rs6
 have S0 : Stp [] w0 h0 w0 h0 := Stp.refl hs0 _
 refine Z4j (n := 32) Tryz.func145 rfl Tryz.ntmps145 rfl [(0, v2), (1, v5), (2, .func (.func 146) #[] #[])] rfl <| Zb <| Z1 <| Wa rfl rfl <| Z7 <| Z6 <| Z09 (fun E w15 => ∃ (h14 : Hp), Z2y k (Zl k) xs1 xs4 = some r ∧ E = [(0, v2), (1, v5), (2, .func (.func 146) #[] #[])] ∧ Stp [] w0 h0 w15 h14 ∧ Hle h0 h14) ?_ ?_
 ·rintro E w15 ⟨h14, HF, rfl, S17, le16⟩
  refine Zb <| Zb <| Z1 <| Wm rfl rfl ?_
  obtain ⟨A18, c19, rfl, rs20⟩ := RS.form (rs3.mono (le16))
  refine Wv rfl (Z1n rfl Z1u) <| Wm rfl rfl <| Z7 <| Z6 <| Z0p <| Z4m <| Z7y [1, 2, 15, 16, 17] [(1, v5), (2, .func (.func 146) #[] #[]), (15, .slice A18 (xs1).length c19), (16, vi (xs1.length : Int)), (17, vi 0)] rfl <| Z4k (K := k) (fun j E w22 => ∃ (h21 : Hp) (x25 : Int), (Zl j).slices_EqualFunc_api_Arm_api_Arm_api_Arm_api_Arm_l2 xs1 xs4 x25 = some r ∧ E = [(1, v5), (2, .func (.func 146) #[] #[]), (15, .slice A18 (xs1).length c19), (16, vi (xs1.length : Int)), (17, vi x25)] ∧ Stp [] w0 h0 w22 h21 ∧ Hle h14 h21) ?_ ?_ (j := k) (Nat.le_refl _) ?_
  ·rintro E w22 ⟨_, _, HF, _⟩; cases HF
  ·rintro j26 hj28 IHL27 E w22 ⟨h21, x25, HF, rfl, S24, le23⟩
   refine Zb <| Z1 <| Wv rfl (Zbt rfl rfl) <| Z7 <| Z6 <| Z09 (fun E w31 => ∃ (h30 : Hp), Z1x j26 (Zl j26) xs1 xs4 x25 = some r ∧ E = [(1, v5), (2, .func (.func 146) #[] #[]), (15, .slice A18 (xs1).length c19), (16, vi (xs1.length : Int)), (17, vi x25)] ∧ Stp [] w0 h0 w31 h30 ∧ Hle h21 h30) ?_ ?_
   ·rintro E w31 ⟨h30, HF, rfl, S33, le32⟩
    refine Zb <| Z0p <| Zb <| Z1 <| Wm rfl rfl ?_
    obtain ⟨e34, he35, HF⟩ := Z8 HF
    obtain ⟨b36, o37, rfl, h39, h40, ra38⟩ := RS.atO (rs20.mono ((le23).trans le32)) he35
    obtain ⟨cs41, r42, hc43⟩ := ra38
    refine Wv rfl (Z07 rfl rfl Z1u Z20 h39 h40) <| Wv rfl (Z16 (cs := cs41) rfl t_agg_77 (by rw [Rp.len r42]; exact Z20) (fun j v hv => S33.sub.at_ _ _ _ (hc43 j v hv))) <| Z15 (zs := [.slice none 0 0, .slice none 0 0, .slice none 0 0]) rfl rfl Z9y rfl S33.sub (fun w44 b45 hb46 s47 ob48 => ?_)
    have g49 : w0.heap.size ≤ b45 := by rw [hb46]; exact S33.size
    have S50 := S33.trans0 s47
    refine Wa rfl rfl ?_
    obtain ⟨v51, v53, v55, rfl, rs52, rs54, rs56⟩ := rp_Ar.1 (Rp.mono (s47.le) r42)
    refine Zo (vs := [v51, v53, v55]) rfl rfl rfl rfl Z20 (Z5 (RS.one rs52) (Z5 (RS.one rs54) (Z5 (RS.one rs56) Zx))) ob48 S50.sub (by simp) (ds := [v51, v53, v55]) rfl (fun w57 s58 ob59 => ?_)
    have S60 := S50.trans1 s58 (.inr g49)
    refine Z7 <| Z6 <| Zb <| Z1 <| Wm rfl rfl <| Wm rfl rfl ?_
    obtain ⟨A61, c62, rfl, rs63⟩ := RS.form (rs6.mono ((le16).trans ((le23).trans ((le32).trans ((s47.le).trans s58.le)))))
    obtain ⟨e64, he65, HF⟩ := Z8 HF
    obtain ⟨b66, o67, rfl, h69, h70, ra68⟩ := RS.atO rs63 he65
    obtain ⟨cs71, r72, hc73⟩ := ra68
    refine Wv rfl (Z07 rfl rfl Z1u Z20 h69 h70) <| Wv rfl (Z16 (cs := cs71) rfl t_agg_77 (by rw [Rp.len r72]; exact Z20) (fun j v hv => S60.sub.at_ _ _ _ (hc73 j v hv))) <| Z15 (zs := [.slice none 0 0, .slice none 0 0, .slice none 0 0]) rfl rfl Z9y rfl S60.sub (fun w74 b75 hb76 s77 ob78 => ?_)
    have ne79 : b45 ≠ b75 := ob59.ne_new hb76
    have g80 : w0.heap.size ≤ b75 := by rw [hb76]; exact S60.size
    have S81 := S60.trans0 s77
    obtain ⟨v82, v84, v86, rfl, rs83, rs85, rs87⟩ := rp_Ar.1 (Rp.mono (s77.le) r72)
    refine Zo (vs := [v82, v84, v86]) rfl rfl rfl rfl Z20 (Z5 (RS.one rs83) (Z5 (RS.one rs85) (Z5 (RS.one rs87) Zx))) ob78 S81.sub (by simp) (ds := [v82, v84, v86]) rfl (fun w88 s89 ob90 => ?_)
    have S91 := S81.trans1 s89 (.inr g80)
    refine Z7 <| Z6 <| Zb <| Z1 <| Wm rfl rfl ?_
    have ob92 := ((ob59.step0 s77).step1 s89 ne79)
    refine Wv rfl (Z16 (cs := [v51, v53, v55]) rfl t_agg_77 Z20 (OB.cells ob92 0 rfl)) <| Wv rfl (Z16 (cs := [v82, v84, v86]) rfl t_agg_77 Z20 (OB.cells ob90 0 rfl)) ?_
    obtain ⟨r93, hr94, HF⟩ := Z8 HF
    refine Wc rfl (oc_val (vs := [.agg #[v51, v53, v55], .agg #[v82, v84, v86]]) (caps := []) rfl rfl t_ent_146) ((IH _ (Nat.le_trans (Nat.le_of_succ_le hj28) (Nat.le_refl _))).2.2.1 hr94 S91.sub (rp_Ar.2 ⟨_, _, _, rfl, (rs52.mono ((s58.le).trans ((s77.le).trans s89.le))), (rs54.mono ((s58.le).trans ((s77.le).trans s89.le))), (rs56.mono ((s58.le).trans ((s77.le).trans s89.le)))⟩) (rp_Ar.2 ⟨_, _, _, rfl, (rs83.mono (s89.le)), (rs85.mono (s89.le)), (rs87.mono (s89.le))⟩)) ?_
    rintro _ w96 ⟨h97, s98, rfl⟩
    have S99 := S91.trans0 s98
    refine Wv rfl (Z3c rfl) <| Z7 <| Z6 <| Z17 HF rfl (fun HF => ?_) (fun HF => ?_)
    ·refine Zb <| Z1 <| Wa rfl rfl <| Z7 <| Z6 <| Z00 <| Zy <| Zi <| Zi <| Zy <| Zi <| Zt rfl rfl ?_
     obtain rfl := Option.some.inj HF
     exact ⟨_, rfl, h97, S99, rfl⟩
    refine Zm <| Z0a <| Z6 <| Z1 <| Wv rfl (Z3n rfl rfl) <| Wm rfl rfl <| Z7 <| Z2c <| Z7y [1, 2, 15, 16, 17] [(1, sl b66 o67 (xs4).length c62), (2, .func (.func 146) #[] #[]), (15, sl b36 o37 (xs1).length c19), (16, vi (xs1.length : Int)), (17, vi (IntKind.i64.wrap (x25 + 1)))] rfl ?_
    exact IHL27 j26 (Nat.le_refl _) _ _ ⟨h97, IntKind.i64.wrap (x25 + 1), HF, rfl, S99, (le23).trans ((le32).trans ((s47.le).trans ((s58.le).trans ((s77.le).trans ((s89.le).trans s98.le)))))⟩
   intro J101
   refine Z17 HF rfl (fun HF => ?_) (fun HF => ?_)
   ·refine Zm <| Z0g [1, 2, 15, 16, 17] _ rfl ?_
    exact J101 ⟨h21, HF, rfl, S24, Hle.refl _⟩
   refine Z4x <| Zz <| Zz <| Z1a <| Z6 <| Zb <| Z1 <| Wa rfl rfl <| Z7 <| Z6 <| Z00 <| Zt rfl rfl ?_
   obtain rfl := Option.some.inj HF
   exact ⟨_, rfl, h21, S24, rfl⟩
  exact ⟨h14, 0, HF, rfl, S17, Hle.refl _⟩
 intro J102
 refine Zb <| Z1 <| Wm rfl rfl ?_
 obtain ⟨A7, c8, rfl, rs9⟩ := RS.form rs3
 refine Wv rfl (Z1n rfl Z1u) <| Wm rfl rfl ?_
 obtain ⟨A10, c11, rfl, rs12⟩ := RS.form rs6
 refine Wv rfl (Z1n rfl Z1u) <| Wv rfl (Z7e rfl rfl) <| Z7 <| Z6 <| Z17 HF rfl (fun HF => ?_) (fun HF => ?_)
 ·refine Zb <| Z1 <| Wa rfl rfl <| Z7 <| Z6 <| Z00 <| Zi <| Zt rfl rfl ?_
  obtain rfl := Option.some.inj HF
  exact ⟨_, rfl, h0, S0, rfl⟩
 refine Zm <| Z0g [0, 1, 2] _ rfl ?_
 exact J102 ⟨h0, HF, rfl, S0, Hle.refl _⟩
theorem Z4v (k : Nat) (IH : ∀ j, j ≤ k → Z5y (Zl j).ast_SameText ∧ Z79 (Zl j).ast_sameStmt ∧ Z59 (Zl j).ast_sameStmt_1 ∧ Z0e (Zl j).slices_EqualFunc_api_Arm_api_Arm_api_Arm_api_Arm ∧ Z06 (Zl j).slices_EqualFunc_api_Stmt_api_Stmt_api_Stmt_api_Stmt) : Z06 (Z2v k (Zl k)) := by
 intro xs1 xs4 r HF w0 h0 v2 v5 hs0 rs3 rs6
 have S0 : Stp [] w0 h0 w0 h0 := Stp.refl hs0 _
 refine Z4j (n := 32) Tryz.func86 rfl Tryz.ntmps86 rfl [(0, v2), (1, v5), (2, .func (.func 87) #[] #[])] rfl <| Zb <| Z1 <| Wa rfl rfl <| Z7 <| Z6 <| Z09 (fun E w15 => ∃ (h14 : Hp), Z2q k (Zl k) xs1 xs4 = some r ∧ E = [(0, v2), (1, v5), (2, .func (.func 87) #[] #[])] ∧ Stp [] w0 h0 w15 h14 ∧ Hle h0 h14) ?_ ?_
 ·rintro E w15 ⟨h14, HF, rfl, S17, le16⟩
  refine Zb <| Zb <| Z1 <| Wm rfl rfl ?_
  obtain ⟨A18, c19, rfl, rs20⟩ := RS.form (rs3.mono (le16))
  refine Wv rfl (Z1n rfl Z1y) <| Wm rfl rfl <| Z7 <| Z6 <| Z0p <| Z4m <| Z7y [1, 2, 15, 16, 17] [(1, v5), (2, .func (.func 87) #[] #[]), (15, .slice A18 (xs1).length c19), (16, vi (xs1.length : Int)), (17, vi 0)] rfl <| Z4k (K := k) (fun j E w22 => ∃ (h21 : Hp) (x25 : Int), (Zl j).slices_EqualFunc_api_Stmt_api_Stmt_api_Stmt_api_Stmt_l2 xs1 xs4 x25 = some r ∧ E = [(1, v5), (2, .func (.func 87) #[] #[]), (15, .slice A18 (xs1).length c19), (16, vi (xs1.length : Int)), (17, vi x25)] ∧ Stp [] w0 h0 w22 h21 ∧ Hle h14 h21) ?_ ?_ (j := k) (Nat.le_refl _) ?_
  ·rintro E w22 ⟨_, _, HF, _⟩; cases HF
  ·rintro j26 hj28 IHL27 E w22 ⟨h21, x25, HF, rfl, S24, le23⟩
   refine Zb <| Z1 <| Wv rfl (Zbt rfl rfl) <| Z7 <| Z6 <| Z09 (fun E w31 => ∃ (h30 : Hp), Z1r j26 (Zl j26) xs1 xs4 x25 = some r ∧ E = [(1, v5), (2, .func (.func 87) #[] #[]), (15, .slice A18 (xs1).length c19), (16, vi (xs1.length : Int)), (17, vi x25)] ∧ Stp [] w0 h0 w31 h30 ∧ Hle h21 h30) ?_ ?_
   ·rintro E w31 ⟨h30, HF, rfl, S33, le32⟩
    refine Zb <| Z0p <| Zb <| Z1 <| Wm rfl rfl ?_
    obtain ⟨e34, he35, HF⟩ := Z8 HF
    obtain ⟨b36, o37, rfl, h39, h40, ra38⟩ := RS.atO (rs20.mono ((le23).trans le32)) he35
    obtain ⟨cs41, r42, hc43⟩ := ra38
    refine Wv rfl (Z07 rfl rfl Z1y Z0h h39 h40) <| Wv rfl (Z16 (cs := cs41) rfl Z4g (by rw [Rp.len r42]; exact Z0h) (fun j v hv => S33.sub.at_ _ _ _ (hc43 j v hv))) <| Z15 (zs := [vi 0, .string b'47, .slice none 0 0, .slice none 0 0, .slice none 0 0, vi 0, .slice none 0 0, .slice none 0 0, .slice none 0 0, .bool false]) rfl rfl Z2n rfl S33.sub (fun w44 b45 hb46 s47 ob48 => ?_)
    have g49 : w0.heap.size ≤ b45 := by rw [hb46]; exact S33.size
    have S50 := S33.trans0 s47
    refine Wa rfl rfl ?_
    obtain ⟨v51, v53, v55, v57, v59, v61, rfl, rs52, rs54, rs56, rs58, rs60, rs62⟩ := Zgz.1 (Rp.mono (s47.le) r42)
    refine Zo (vs := [vi e34.op, .string e34.name, v51, v53, v55, vi e34.n, v57, v59, v61, .bool e34.els]) rfl rfl rfl rfl Z0h (Z5 rfl (Z5 rfl (Z5 (RS.one rs52) (Z5 (RS.one rs54) (Z5 (RS.one rs56) (Z5 rfl (Z5 (RS.one rs58) (Z5 (RS.one rs60) (Z5 (RS.one rs62) (Z5 rfl Zx)))))))))) ob48 S50.sub (by simp) (ds := [vi e34.op, .string e34.name, v51, v53, v55, vi e34.n, v57, v59, v61, .bool e34.els]) rfl (fun w63 s64 ob65 => ?_)
    have S66 := S50.trans1 s64 (.inr g49)
    refine Z7 <| Z6 <| Zb <| Z1 <| Wm rfl rfl <| Wm rfl rfl ?_
    obtain ⟨A67, c68, rfl, rs69⟩ := RS.form (rs6.mono ((le16).trans ((le23).trans ((le32).trans ((s47.le).trans s64.le)))))
    obtain ⟨e70, he71, HF⟩ := Z8 HF
    obtain ⟨b72, o73, rfl, h75, h76, ra74⟩ := RS.atO rs69 he71
    obtain ⟨cs77, r78, hc79⟩ := ra74
    refine Wv rfl (Z07 rfl rfl Z1y Z0h h75 h76) <| Wv rfl (Z16 (cs := cs77) rfl Z4g (by rw [Rp.len r78]; exact Z0h) (fun j v hv => S66.sub.at_ _ _ _ (hc79 j v hv))) <| Z15 (zs := [vi 0, .string b'47, .slice none 0 0, .slice none 0 0, .slice none 0 0, vi 0, .slice none 0 0, .slice none 0 0, .slice none 0 0, .bool false]) rfl rfl Z2n rfl S66.sub (fun w80 b81 hb82 s83 ob84 => ?_)
    have ne85 : b45 ≠ b81 := ob65.ne_new hb82
    have g86 : w0.heap.size ≤ b81 := by rw [hb82]; exact S66.size
    have S87 := S66.trans0 s83
    obtain ⟨v88, v90, v92, v94, v96, v98, rfl, rs89, rs91, rs93, rs95, rs97, rs99⟩ := Zgz.1 (Rp.mono (s83.le) r78)
    refine Zo (vs := [vi e70.op, .string e70.name, v88, v90, v92, vi e70.n, v94, v96, v98, .bool e70.els]) rfl rfl rfl rfl Z0h (Z5 rfl (Z5 rfl (Z5 (RS.one rs89) (Z5 (RS.one rs91) (Z5 (RS.one rs93) (Z5 rfl (Z5 (RS.one rs95) (Z5 (RS.one rs97) (Z5 (RS.one rs99) (Z5 rfl Zx)))))))))) ob84 S87.sub (by simp) (ds := [vi e70.op, .string e70.name, v88, v90, v92, vi e70.n, v94, v96, v98, .bool e70.els]) rfl (fun w100 s101 ob102 => ?_)
    have S103 := S87.trans1 s101 (.inr g86)
    refine Z7 <| Z6 <| Zb <| Z1 <| Wm rfl rfl ?_
    have ob104 := ((ob65.step0 s83).step1 s101 ne85)
    refine Wv rfl (Z16 (cs := [vi e34.op, .string e34.name, v51, v53, v55, vi e34.n, v57, v59, v61, .bool e34.els]) rfl Z4g Z0h (OB.cells ob104 0 rfl)) <| Wv rfl (Z16 (cs := [vi e70.op, .string e70.name, v88, v90, v92, vi e70.n, v94, v96, v98, .bool e70.els]) rfl Z4g Z0h (OB.cells ob102 0 rfl)) ?_
    obtain ⟨r105, hr106, HF⟩ := Z8 HF
    refine Wc rfl (oc_val (vs := [.agg #[vi e34.op, .string e34.name, v51, v53, v55, vi e34.n, v57, v59, v61, .bool e34.els], .agg #[vi e70.op, .string e70.name, v88, v90, v92, vi e70.n, v94, v96, v98, .bool e70.els]]) (caps := []) rfl rfl t_ent_87) ((IH _ (Nat.le_trans (Nat.le_of_succ_le hj28) (Nat.le_refl _))).2.1 hr106 S103.sub (Zgz.2 ⟨_, _, _, _, _, _, rfl, (rs52.mono ((s64.le).trans ((s83.le).trans s101.le))), (rs54.mono ((s64.le).trans ((s83.le).trans s101.le))), (rs56.mono ((s64.le).trans ((s83.le).trans s101.le))), (rs58.mono ((s64.le).trans ((s83.le).trans s101.le))), (rs60.mono ((s64.le).trans ((s83.le).trans s101.le))), (rs62.mono ((s64.le).trans ((s83.le).trans s101.le)))⟩) (Zgz.2 ⟨_, _, _, _, _, _, rfl, (rs89.mono (s101.le)), (rs91.mono (s101.le)), (rs93.mono (s101.le)), (rs95.mono (s101.le)), (rs97.mono (s101.le)), (rs99.mono (s101.le))⟩)) ?_
    rintro _ w108 ⟨h109, s110, rfl⟩
    have S111 := S103.trans0 s110
    refine Wv rfl (Z3c rfl) <| Z7 <| Z6 <| Z17 HF rfl (fun HF => ?_) (fun HF => ?_)
    ·refine Zb <| Z1 <| Wa rfl rfl <| Z7 <| Z6 <| Z00 <| Zy <| Zi <| Zi <| Zy <| Zi <| Zt rfl rfl ?_
     obtain rfl := Option.some.inj HF
     exact ⟨_, rfl, h109, S111, rfl⟩
    refine Zm <| Z0a <| Z6 <| Z1 <| Wv rfl (Z3n rfl rfl) <| Wm rfl rfl <| Z7 <| Z2c <| Z7y [1, 2, 15, 16, 17] [(1, sl b72 o73 (xs4).length c68), (2, .func (.func 87) #[] #[]), (15, sl b36 o37 (xs1).length c19), (16, vi (xs1.length : Int)), (17, vi (IntKind.i64.wrap (x25 + 1)))] rfl ?_
    exact IHL27 j26 (Nat.le_refl _) _ _ ⟨h109, IntKind.i64.wrap (x25 + 1), HF, rfl, S111, (le23).trans ((le32).trans ((s47.le).trans ((s64.le).trans ((s83.le).trans ((s101.le).trans s110.le)))))⟩
   intro J113
   refine Z17 HF rfl (fun HF => ?_) (fun HF => ?_)
   ·refine Zm <| Z0g [1, 2, 15, 16, 17] _ rfl ?_
    exact J113 ⟨h21, HF, rfl, S24, Hle.refl _⟩
   refine Z4x <| Zz <| Zz <| Z1a <| Z6 <| Zb <| Z1 <| Wa rfl rfl <| Z7 <| Z6 <| Z00 <| Zt rfl rfl ?_
   obtain rfl := Option.some.inj HF
   exact ⟨_, rfl, h21, S24, rfl⟩
  exact ⟨h14, 0, HF, rfl, S17, Hle.refl _⟩
 intro J114
 refine Zb <| Z1 <| Wm rfl rfl ?_
 obtain ⟨A7, c8, rfl, rs9⟩ := RS.form rs3
 refine Wv rfl (Z1n rfl Z1y) <| Wm rfl rfl ?_
 obtain ⟨A10, c11, rfl, rs12⟩ := RS.form rs6
 refine Wv rfl (Z1n rfl Z1y) <| Wv rfl (Z7e rfl rfl) <| Z7 <| Z6 <| Z17 HF rfl (fun HF => ?_) (fun HF => ?_)
 ·refine Zb <| Z1 <| Wa rfl rfl <| Z7 <| Z6 <| Z00 <| Zi <| Zt rfl rfl ?_
  obtain rfl := Option.some.inj HF
  exact ⟨_, rfl, h0, S0, rfl⟩
 refine Zm <| Z0g [0, 1, 2] _ rfl ?_
 exact J114 ⟨h0, HF, rfl, S0, Hle.refl _⟩
theorem all_ast_SameText : ∀ k j, j ≤ k → Z5y (Zl j).ast_SameText ∧ Z79 (Zl j).ast_sameStmt ∧ Z59 (Zl j).ast_sameStmt_1 ∧ Z0e (Zl j).slices_EqualFunc_api_Arm_api_Arm_api_Arm_api_Arm ∧ Z06 (Zl j).slices_EqualFunc_api_Stmt_api_Stmt_api_Stmt_api_Stmt := by
  intro k
  induction k with
  | zero =>
    intro j hj
    obtain rfl : j = 0 := by omega
    exact ⟨(fun _ _ _ => by intro h; cases h), (fun _ _ _ => by intro h; cases h), (fun _ _ _ => by intro h; cases h), (fun _ _ _ => by intro h; cases h), (fun _ _ _ => by intro h; cases h)⟩
  | succ k ih =>
    intro j hj
    by_cases h : j ≤ k
    · exact ih j h
    · obtain rfl : j = k + 1 := by omega
      exact ⟨s_ast_SameText k ih, s_ast_sameStmt k ih, s_ast_sameStmt_1 k ih, Z5q k ih, Z4v k ih⟩
theorem ok_ast_SameText (k : Nat) : Z5y (Zab k) := (all_ast_SameText k k (Nat.le_refl _)).1
def C_syntax_Same (φ : (List St) → (List St) → Option Bool) : Prop := ∀ ⦃xs1 : List St⦄ ⦃xs4 : List St⦄ ⦃r : Bool⦄, φ xs1 xs4 = some r → ∀ ⦃w0 : World⦄ ⦃h0 : Hp⦄ ⦃v2 : Value⦄ ⦃v5 : Value⦄, Sub h0 w0 → RS h0 v2 xs1 → RS h0 v5 xs4 →
  Calls Tryz.prog 29 #[v2, v5] w0 fun e w1 => ∃ v, e = .returned v ∧ ∃ h1, Stp [] w0 h0 w1 h1 ∧ v = .bool r
theorem s_syntax_Same (k : Nat) : C_syntax_Same (Zbk k) := by
 intro xs1 xs4 r HF w0 h0 v2 v5 hs0 rs3 rs6
 have S0 : Stp [] w0 h0 w0 h0 := Stp.refl hs0 _
 refine Z4j (n := 8) Tryz.func29 rfl Tryz.ntmps29 rfl [(0, v2), (1, v5)] rfl <| Zb <| Z1 <| Wa rfl rfl <| Z7 <| Z6 <| Zb <| Z1 <| Wm rfl rfl <| Wm rfl rfl ?_
 obtain ⟨r7, hr8, HF⟩ := Z8 HF
 refine Wc rfl (Ze (vs := [v2, v5]) rfl t_ent_50) (ok_ast_SameText _ hr8 S0.sub rs3 rs6) ?_
 rintro _ w10 ⟨h11, s12, rfl⟩
 have S13 := S0.trans0 s12
 refine Wa rfl rfl <| Z7 <| Z6 <| Z00 <| Zt rfl rfl ?_
 obtain rfl := Option.some.inj HF
 exact ⟨_, rfl, h11, S13, rfl⟩
theorem Z71 (k : Nat) : C_syntax_Same (Zbk k) := s_syntax_Same k
def Z82 (φ : Ex → Ex → Option Bool) : Prop := ∀ ⦃x1 : Ex⦄ ⦃x4 : Ex⦄ ⦃r : Bool⦄, φ x1 x4 = some r → ∀ ⦃w0 : World⦄ ⦃h0 : Hp⦄ ⦃cs2 : List Value⦄ ⦃cs5 : List Value⦄, Sub h0 w0 → Rp.R h0 x1 cs2 → Rp.R h0 x4 cs5 →
  Calls Tryz.prog 25 #[.agg cs2.toArray, .agg cs5.toArray] w0 fun e w1 => ∃ v, e = .returned v ∧ ∃ h1, Stp [] w0 h0 w1 h1 ∧ v = .bool r
def Z7b (φ : (List Ex) → (List Ex) → Option Bool) : Prop := ∀ ⦃xs1 : List Ex⦄ ⦃xs4 : List Ex⦄ ⦃r : Bool⦄, φ xs1 xs4 = some r → ∀ ⦃w0 : World⦄ ⦃h0 : Hp⦄ ⦃v2 : Value⦄ ⦃v5 : Value⦄, Sub h0 w0 → RS h0 v2 xs1 → RS h0 v5 xs4 →
  Calls Tryz.prog 39 #[v2, v5] w0 fun e w1 => ∃ v, e = .returned v ∧ ∃ h1, Stp [] w0 h0 w1 h1 ∧ v = .bool r
theorem s_ref02_SameExpr (k : Nat) (IH : ∀ j, j ≤ k → Z82 (Z0x j).ref02_SameExpr ∧ Z7b (Z0x j).ref02_SameExprs) : Z82 (m_ref02_SameExpr k (Z0x k)) := by
 intro x1 x4 r HF w0 h0 cs2 cs5 hs0 r3 r6
 have S0 : Stp [] w0 h0 w0 h0 := Stp.refl hs0 _
 refine Z4j (n := 45) Tryz.func25 rfl Tryz.ntmps25 rfl [(0, .agg cs2.toArray), (1, .agg cs5.toArray)] rfl <| Zb <| Z1 ?_
 obtain ⟨v7, rfl, rs8⟩ := Z7n.1 r3
 refine Zhq (cs := [vi x1.op, vi x1.kind, vi x1.n, .string x1.s, .string x1.f, v7]) rfl rfl rfl rfl S0.sub (fun w9 b10 hb11 s12 ob13 => ?_)
 have g14 : w0.heap.size ≤ b10 := by rw [hb11]; exact S0.size
 have S15 := S0.trans0 s12
 obtain ⟨v16, rfl, rs17⟩ := Z7n.1 (Rp.mono (s12.le) r6)
 refine Zhq (cs := [vi x4.op, vi x4.kind, vi x4.n, .string x4.s, .string x4.f, v16]) rfl rfl rfl rfl S15.sub (fun w18 b19 hb20 s21 ob22 => ?_)
 have ne23 : b10 ≠ b19 := ob13.ne_new hb20
 have g24 : w0.heap.size ≤ b19 := by rw [hb20]; exact S15.size
 have S25 := S15.trans0 s21
 refine Wa rfl rfl <| Z7 <| Z6 <| Zb <| Z1 <| Wv rfl (Z2 rfl Z64) ?_
 have ob26 := (ob13.step0 s21)
 refine Wv rfl (Zc rfl Z0f (OB.cell ob26 (j := 0) rfl)) <| Wv rfl (Z2 rfl Z64) <| Wv rfl (Zc rfl Z0f (OB.cell ob22 (j := 0) rfl)) <| Wv rfl (Z4n rfl rfl) <| Wm rfl rfl <| Z3g 10 HF rfl (fun HF => ?_) (fun HF => ?_)
 ·refine Wv rfl (Z2 rfl Zbb) <| Wv rfl (Zc rfl Z0f (OB.cell ob26 (j := 1) rfl)) <| Wv rfl (Z2 rfl Zbb) <| Wv rfl (Zc rfl Z0f (OB.cell ob22 (j := 1) rfl)) <| Wv rfl (Z4n rfl rfl) <| Wv rfl (Zh rfl rfl) <| Wm rfl rfl <| Z3g 17 HF rfl (fun HF => ?_) (fun HF => ?_)
  ·refine Wv rfl (Z2 rfl Zba) <| Wv rfl (Zc rfl Z0f (OB.cell ob26 (j := 2) rfl)) <| Wv rfl (Z2 rfl Zba) <| Wv rfl (Zc rfl Z0f (OB.cell ob22 (j := 2) rfl)) <| Wv rfl (Z4n rfl rfl) <| Wv rfl (Zh rfl rfl) <| Wm rfl rfl <| Z3g 24 HF rfl (fun HF => ?_) (fun HF => ?_)
   ·refine Wv rfl (Z2 rfl Zdd) <| Wv rfl (Zc rfl Z2r (OB.cell ob26 (j := 3) rfl)) <| Wv rfl (Z2 rfl Zdd) <| Wv rfl (Zc rfl Z2r (OB.cell ob22 (j := 3) rfl)) <| Wv rfl (Z0d rfl rfl) <| Wv rfl (Zh rfl rfl) <| Wm rfl rfl <| Z3g 31 HF rfl (fun HF => ?_) (fun HF => ?_)
    ·refine Wv rfl (Z2 rfl Zb9) <| Wv rfl (Zc rfl Z2r (OB.cell ob26 (j := 4) rfl)) <| Wv rfl (Z2 rfl Zb9) <| Wv rfl (Zc rfl Z2r (OB.cell ob22 (j := 4) rfl)) <| Wv rfl (Z0d rfl rfl) <| Wv rfl (Zh rfl rfl) <| Wm rfl rfl <| Z3g 38 HF rfl (fun HF => ?_) (fun HF => ?_)
     ·refine Wv rfl (Z2 rfl Z4i) <| Wv rfl (Zc rfl Z2k (OB.cell ob26 (j := 5) rfl)) <| Wv rfl (Z2 rfl Z4i) <| Wv rfl (Zc rfl Z2k (OB.cell ob22 (j := 5) rfl)) ?_
      obtain ⟨r32, hr33, HF⟩ := Z8 HF
      refine Wc rfl (Ze (vs := [v7, v16]) rfl t_ent_39) ((IH _ (Nat.le_refl _)).2 hr33 S25.sub (rs8.mono ((s12.le).trans s21.le)) (rs17.mono (s21.le))) ?_
      rintro _ w35 ⟨h36, s37, rfl⟩
      have S38 := S25.trans0 s37
      refine Wv rfl (Zh rfl rfl) <| Wa rfl rfl <| Z7 <| Z6 <| Z00 <| Zt rfl rfl ?_
      obtain rfl := Option.some.inj HF
      exact ⟨_, rfl, h36, S38, rfl⟩
     refine Wp rfl <| Wp rfl <| Wp rfl <| Wp rfl <| Wp rfl <| Wv rfl (Zg rfl rfl) <| Wa rfl rfl <| Z7 <| Z6 <| Z00 <| Zt rfl rfl ?_
     obtain rfl := Option.some.inj HF
     exact ⟨_, rfl, h0, S25, rfl⟩
    refine Wp rfl <| Wp rfl <| Wp rfl <| Wp rfl <| Wp rfl <| Wv rfl (Zg rfl rfl) <| Wm rfl rfl <| Wp rfl <| Wp rfl <| Wp rfl <| Wp rfl <| Wp rfl <| Wv rfl (Zg rfl rfl) <| Wa rfl rfl <| Z7 <| Z6 <| Z00 <| Zt rfl rfl ?_
    obtain rfl := Option.some.inj HF
    exact ⟨_, rfl, h0, S25, rfl⟩
   refine Wp rfl <| Wp rfl <| Wp rfl <| Wp rfl <| Wp rfl <| Wv rfl (Zg rfl rfl) <| Wm rfl rfl <| Wp rfl <| Wp rfl <| Wp rfl <| Wp rfl <| Wp rfl <| Wv rfl (Zg rfl rfl) <| Wm rfl rfl <| Wp rfl <| Wp rfl <| Wp rfl <| Wp rfl <| Wp rfl <| Wv rfl (Zg rfl rfl) <| Wa rfl rfl <| Z7 <| Z6 <| Z00 <| Zt rfl rfl ?_
   obtain rfl := Option.some.inj HF
   exact ⟨_, rfl, h0, S25, rfl⟩
  refine Wp rfl <| Wp rfl <| Wp rfl <| Wp rfl <| Wp rfl <| Wv rfl (Zg rfl rfl) <| Wm rfl rfl <| Wp rfl <| Wp rfl <| Wp rfl <| Wp rfl <| Wp rfl <| Wv rfl (Zg rfl rfl) <| Wm rfl rfl <| Wp rfl <| Wp rfl <| Wp rfl <| Wp rfl <| Wp rfl <| Wv rfl (Zg rfl rfl) <| Wm rfl rfl <| Wp rfl <| Wp rfl <| Wp rfl <| Wp rfl <| Wp rfl <| Wv rfl (Zg rfl rfl) <| Wa rfl rfl <| Z7 <| Z6 <| Z00 <| Zt rfl rfl ?_
  obtain rfl := Option.some.inj HF
  exact ⟨_, rfl, h0, S25, rfl⟩
 refine Wp rfl <| Wp rfl <| Wp rfl <| Wp rfl <| Wp rfl <| Wv rfl (Zg rfl rfl) <| Wm rfl rfl <| Wp rfl <| Wp rfl <| Wp rfl <| Wp rfl <| Wp rfl <| Wv rfl (Zg rfl rfl) <| Wm rfl rfl <| Wp rfl <| Wp rfl <| Wp rfl <| Wp rfl <| Wp rfl <| Wv rfl (Zg rfl rfl) <| Wm rfl rfl <| Wp rfl <| Wp rfl <| Wp rfl <| Wp rfl <| Wp rfl <| Wv rfl (Zg rfl rfl) <| Wm rfl rfl <| Wp rfl <| Wp rfl <| Wp rfl <| Wp rfl <| Wp rfl <| Wv rfl (Zg rfl rfl) <| Wa rfl rfl <| Z7 <| Z6 <| Z00 <| Zt rfl rfl ?_
 obtain rfl := Option.some.inj HF
 exact ⟨_, rfl, h0, S25, rfl⟩
theorem s_ref02_SameExprs (k : Nat) (IH : ∀ j, j ≤ k → Z82 (Z0x j).ref02_SameExpr ∧ Z7b (Z0x j).ref02_SameExprs) : Z7b (Zgw k (Z0x k)) := by
 intro xs1 xs4 r HF w0 h0 v2 v5 hs0 rs3 rs6
 have S0 : Stp [] w0 h0 w0 h0 := Stp.refl hs0 _
 refine Z4j (n := 27) Tryz.func39 rfl Tryz.ntmps39 rfl [(0, v2), (1, v5)] rfl <| Zb <| Z1 <| Wa rfl rfl <| Z7 <| Z6 <| Z09 (fun E w15 => ∃ (h14 : Hp), Zfk k (Z0x k) xs1 xs4 = some r ∧ E = [(0, v2), (1, v5)] ∧ Stp [] w0 h0 w15 h14 ∧ Hle h0 h14) ?_ ?_
 ·rintro E w15 ⟨h14, HF, rfl, S17, le16⟩
  refine Zb <| Zb <| Z1 <| Wa rfl rfl <| Z7 <| Z6 <| Z0p <| Z4m <| Z7y [0, 1, 5] [(0, v2), (1, v5), (5, vi 0)] rfl <| Z4k (K := k) (fun j E w19 => ∃ (h18 : Hp) (x22 : Int), (Z0x j).ref02_SameExprs_l2 xs1 xs4 x22 = some r ∧ E = [(0, v2), (1, v5), (5, vi x22)] ∧ Stp [] w0 h0 w19 h18 ∧ Hle h14 h18) ?_ ?_ (j := k) (Nat.le_refl _) ?_
  ·rintro E w19 ⟨_, _, HF, _⟩; cases HF
  ·rintro j23 hj25 IHL24 E w19 ⟨h18, x22, HF, rfl, S21, le20⟩
   refine Z09 (fun E w31 => ∃ (h30 : Hp), Zfn j23 (Z0x j23) xs1 xs4 x22 = some r ∧ E = [(0, v2), (1, v5), (5, vi x22)] ∧ Stp [] w0 h0 w31 h30 ∧ Hle h18 h30) ?_ ?_
   ·rintro E w31 ⟨h30, HF, rfl, S33, le32⟩
    refine Z09 (fun E w73 => ∃ (h72 : Hp), Zft j23 (Z0x j23) xs1 xs4 x22 = some r ∧ E = [(0, v2), (1, v5), (5, vi x22)] ∧ Stp [] w0 h0 w73 h72 ∧ Hle h30 h72) ?_ ?_
    ·rintro E w73 ⟨h72, HF, rfl, S75, le74⟩
     refine Z1 <| Wm rfl rfl <| Wv rfl (Z3n rfl rfl) <| Wa rfl rfl <| Z7 <| Z2c <| Z7y [0, 1, 5] [(0, v2), (1, v5), (5, vi (IntKind.i64.wrap (x22 + 1)))] rfl ?_
     exact IHL24 j23 (Nat.le_refl _) _ _ ⟨h72, IntKind.i64.wrap (x22 + 1), HF, rfl, S75, (le20).trans ((le32).trans le74)⟩
    intro J76
    refine Z0p <| Zb ?_
    obtain ⟨A34, c35, rfl, rs36⟩ := RS.form (rs3.mono ((le16).trans ((le20).trans le32)))
    obtain ⟨e37, he38, HF⟩ := Z8 HF
    obtain ⟨b39, o40, rfl, h42, h43, ra41⟩ := RS.atO rs36 he38
    obtain ⟨cs44, r45, hc46⟩ := ra41
    obtain ⟨A47, c48, rfl, rs49⟩ := RS.form (rs6.mono ((le16).trans ((le20).trans le32)))
    obtain ⟨e50, he51, HF⟩ := Z8 HF
    obtain ⟨b52, o53, rfl, h55, h56, ra54⟩ := RS.atO rs49 he51
    obtain ⟨cs57, r58, hc59⟩ := ra54
    refine Z2x (m := 8) [(0, sl b39 o40 (xs1).length c35), (1, sl b52 o53 (xs4).length c48), (5, vi x22)] [0, 1, 5] rfl (fun i v w h => match i with | 0 => v = sl b39 o40 (xs1).length c35 | 1 => v = vi x22 | 2 => v = pt b39 (o40 + Int.toNat x22 * 6) | 3 => v = .agg cs44.toArray | 4 => v = sl b52 o53 (xs4).length c48 | 5 => v = vi x22 | 6 => v = pt b52 (o53 + Int.toNat x22 * 6) | 7 => v = .agg cs57.toArray | _ => True) Z3f S33.sub rfl rfl rfl rfl rfl ?_ ?_ ?_
    ·intro i v w h w2 h2 hΦ hst
     match i, hΦ with
     | 0, hΦ | 1, hΦ | 2, hΦ | 3, hΦ | 4, hΦ | 5, hΦ | 6, hΦ | 7, hΦ => exact hΦ
     | i + 8, _ => exact trivial
    ·refine ⟨?_, ?_, ?_, ?_, ?_, ?_, ?_, ?_, trivial⟩
     ·intro a w60 h61 s62 hat hF
      exact Z3 hat rfl (Zu rfl) s62.sub (by exact rfl)
     ·intro a w60 h61 s62 hat hF
      exact Z3 hat rfl (Zu rfl) s62.sub (by exact rfl)
     ·intro a w60 h61 s62 hat hF
      exact Z3 (Z0 (Z0 hat (hF 0 17 rfl rfl)) (hF 1 18 rfl rfl)) rfl (Z07 rfl rfl Z0y Zw h42 h43) s62.sub (by exact rfl)
     ·intro a w60 h61 s62 hat hF
      exact Z3 (Z0 hat (hF 2 19 rfl rfl)) rfl (Z16 (cs := cs44) rfl Z2a (by rw [Rp.len (Rp.mono (s62.le) r45)]; exact Zw) (fun j v hv => s62.sub.at_ _ _ _ ((fun i v hv => (s62.le).1 _ _ _ (hc46 i v hv)) j v hv))) s62.sub (by exact rfl)
     ·intro a w60 h61 s62 hat hF
      exact Z3 hat rfl (Zu rfl) s62.sub (by exact rfl)
     ·intro a w60 h61 s62 hat hF
      exact Z3 hat rfl (Zu rfl) s62.sub (by exact rfl)
     ·intro a w60 h61 s62 hat hF
      exact Z3 (Z0 (Z0 hat (hF 4 21 rfl rfl)) (hF 5 22 rfl rfl)) rfl (Z07 rfl rfl Z0y Zw h55 h56) s62.sub (by exact rfl)
     intro a w60 h61 s62 hat hF
     exact Z3 (Z0 hat (hF 6 23 rfl rfl)) rfl (Z16 (cs := cs57) rfl Z2a (by rw [Rp.len (Rp.mono (s62.le) r58)]; exact Zw) (fun j v hv => s62.sub.at_ _ _ _ ((fun i v hv => (s62.le).1 _ _ _ (hc59 i v hv)) j v hv))) s62.sub (by exact rfl)
    intro a w60 h61 s62 hat hF
    obtain hv0 := hF 0 17 (by decide) rfl
    obtain hv1 := hF 1 18 (by decide) rfl
    obtain hv2 := hF 2 19 (by decide) rfl
    obtain hv3 := hF 3 20 (by decide) rfl
    obtain hv4 := hF 4 21 (by decide) rfl
    obtain hv5 := hF 5 22 (by decide) rfl
    obtain hv6 := hF 6 23 (by decide) rfl
    obtain hv7 := hF 7 24 (by decide) rfl
    refine Z7z [(24, .agg cs57.toArray), (23, pt b52 (o53 + Int.toNat x22 * 6)), (22, vi x22), (21, sl b52 o53 (xs4).length c48), (20, .agg cs44.toArray), (19, pt b39 (o40 + Int.toNat x22 * 6)), (18, vi x22), (17, sl b39 o40 (xs1).length c35), (0, sl b39 o40 (xs1).length c35), (1, sl b52 o53 (xs4).length c48), (5, vi x22)] (Z0 (Z0 (Z0 (Z0 (Z0 (Z0 (Z0 (Z0 hat hv0) hv1) hv2) hv3) hv4) hv5) hv6) hv7) ?_
    have S63 := S33.trans0 s62
    obtain ⟨r64, hr65, HF⟩ := Z8 HF
    refine Wc rfl (Ze (vs := [.agg cs44.toArray, .agg cs57.toArray]) rfl t_ent_25) ((IH _ (Nat.le_trans (Nat.le_of_succ_le hj25) (Nat.le_refl _))).1 hr65 S63.sub (Rp.mono (s62.le) r45) (Rp.mono (s62.le) r58)) ?_
    rintro _ w67 ⟨h68, s69, rfl⟩
    have S70 := S63.trans0 s69
    refine Wv rfl (Z3c rfl) <| Z7 <| Z6 <| Z17 HF rfl (fun HF => ?_) (fun HF => ?_)
    ·refine Zb <| Z1 <| Wa rfl rfl <| Z7 <| Z6 <| Z00 <| Zy <| Zi <| Zi <| Zy <| Zi <| Zt rfl rfl ?_
     obtain rfl := Option.some.inj HF
     exact ⟨_, rfl, h68, S70, rfl⟩
    refine Zm <| Z0a <| Z0g [0, 1, 5] _ rfl ?_
    exact J76 ⟨h68, HF, rfl, S70, (s62.le).trans s69.le⟩
   intro J77
   refine Zb <| Z1 <| Wm rfl rfl <| Wm rfl rfl ?_
   obtain ⟨A26, c27, rfl, rs28⟩ := RS.form (rs3.mono ((le16).trans le20))
   refine Wv rfl (Z1n rfl Z0y) <| Wv rfl (Zbt rfl rfl) <| Z7 <| Z6 <| Z17 HF rfl (fun HF => ?_) (fun HF => ?_)
   ·refine Zm <| Z0g [0, 1, 5] _ rfl ?_
    exact J77 ⟨h18, HF, rfl, S21, Hle.refl _⟩
   refine Z4x <| Zz <| Zz <| Z1a <| Z6 <| Zb <| Z1 <| Wa rfl rfl <| Z7 <| Z6 <| Z00 <| Zt rfl rfl ?_
   obtain rfl := Option.some.inj HF
   exact ⟨_, rfl, h18, S21, rfl⟩
  exact ⟨h14, 0, HF, rfl, S17, Hle.refl _⟩
 intro J78
 refine Zb <| Z1 <| Wm rfl rfl ?_
 obtain ⟨A7, c8, rfl, rs9⟩ := RS.form rs3
 refine Wv rfl (Z1n rfl Z0y) <| Wm rfl rfl ?_
 obtain ⟨A10, c11, rfl, rs12⟩ := RS.form rs6
 refine Wv rfl (Z1n rfl Z0y) <| Wv rfl (Z7e rfl rfl) <| Z7 <| Z6 <| Z17 HF rfl (fun HF => ?_) (fun HF => ?_)
 ·refine Zb <| Z1 <| Wa rfl rfl <| Z7 <| Z6 <| Z00 <| Zi <| Zt rfl rfl ?_
  obtain rfl := Option.some.inj HF
  exact ⟨_, rfl, h0, S0, rfl⟩
 refine Zm <| Z0g [0, 1] _ rfl ?_
 exact J78 ⟨h0, HF, rfl, S0, Hle.refl _⟩
theorem Zfd : ∀ k j, j ≤ k → Z82 (Z0x j).ref02_SameExpr ∧ Z7b (Z0x j).ref02_SameExprs := by
  intro k
  induction k with
  | zero =>
    intro j hj
    obtain rfl : j = 0 := by omega
    exact ⟨(fun _ _ _ => by intro h; cases h), (fun _ _ _ => by intro h; cases h)⟩
  | succ k ih =>
    intro j hj
    by_cases h : j ≤ k
    · exact ih j h
    · obtain rfl : j = k + 1 := by omega
      exact ⟨s_ref02_SameExpr k ih, s_ref02_SameExprs k ih⟩
theorem Zh0 (k : Nat) : Z82 (Z85 k) := (Zfd k k (Nat.le_refl _)).1
theorem Z6q (k : Nat) : Z7b (Z4h k) := (Zfd k k (Nat.le_refl _)).2
def Zef (φ : (List St) → Int → Option Int) : Prop := ∀ ⦃xs1 : List St⦄ ⦃x4 : Int⦄ ⦃r : Int⦄, φ xs1 x4 = some r → ∀ ⦃w0 : World⦄ ⦃h0 : Hp⦄ ⦃v2 : Value⦄, Sub h0 w0 → RS h0 v2 xs1 →
  Calls Tryz.prog 42 #[v2, .int .i64 x4] w0 fun e w1 => ∃ v, e = .returned v ∧ ∃ h1, Stp [] w0 h0 w1 h1 ∧ v = .int .i64 r
theorem s_law02_weigh (k : Nat) (IH : ∀ j, j ≤ k → Zef (Z12 j).law02_weigh) : Zef (Z9o k (Z12 k)) := by
 intro xs1 x4 r HF w0 h0 v2 hs0 rs3
 have S0 : Stp [] w0 h0 w0 h0 := Stp.refl hs0 _
 refine Z4j (n := 110) Tryz.func42 rfl Tryz.ntmps42 rfl [(0, v2), (1, vi x4)] rfl <| Zb <| Z1 <| Wa rfl rfl <| Z7 <| Z6 <| Z09 (fun E w7 => ∃ (h6 : Hp), Zgg k (Z12 k) xs1 x4 = some r ∧ E = [(0, v2), (1, vi x4)] ∧ Stp [] w0 h0 w7 h6 ∧ Hle h0 h6) ?_ ?_
 ·rintro E w7 ⟨h6, HF, rfl, S9, le8⟩
  refine Zb <| Z1 <| Wm rfl rfl ?_
  obtain ⟨A10, c11, rfl, rs12⟩ := RS.form (rs3.mono (le8))
  refine Wv rfl (Z1n rfl Z1y) <| Wa rfl rfl <| Z7 <| Z6 <| Zb <| Zb <| Z1 <| Wa rfl rfl <| Z7 <| Z6 <| Z0p <| Z4m <| Z7y [0, 1, 5, 6] [(0, .slice A10 (xs1).length c11), (1, vi x4), (5, vi (xs1.length : Int)), (6, vi 0)] rfl <| Z4k (K := k) (fun j E w14 => ∃ (h13 : Hp) (x17 : Int) (x18 : Int), (Z12 j).law02_weigh_l2 xs1 x4 x17 x18 = some r ∧ E = [(0, .slice A10 (xs1).length c11), (1, vi x4), (5, vi x17), (6, vi x18)] ∧ Stp [] w0 h0 w14 h13 ∧ Hle h6 h13) ?_ ?_ (j := k) (Nat.le_refl _) ?_
  ·rintro E w14 ⟨_, _, _, HF, _⟩; cases HF
  ·rintro j19 hj21 IHL20 E w14 ⟨h13, x17, x18, HF, rfl, S16, le15⟩
   refine Z09 (fun E w31 => ∃ (h30 : Hp), Zgq j19 (Z12 j19) xs1 x4 x17 x18 = some r ∧ E = [(0, .slice A10 (xs1).length c11), (1, vi x4), (5, vi x17), (6, vi x18)] ∧ Stp [] w0 h0 w31 h30 ∧ Hle h13 h30) ?_ ?_
   ·rintro E w31 ⟨h30, HF, rfl, S33, le32⟩
    refine Zb <| Z0p <| Zb ?_
    obtain ⟨e34, he35, HF⟩ := Z8 HF
    obtain ⟨b36, o37, rfl, h39, h40, ra38⟩ := RS.atO (rs12.mono ((le15).trans le32)) he35
    obtain ⟨cs41, r42, hc43⟩ := ra38
    obtain ⟨v44, v46, v48, v50, v52, v54, rfl, rs45, rs47, rs49, rs51, rs53, rs55⟩ := Zgz.1 r42
    obtain ⟨r56, hr57, HF⟩ := Z8 HF
    obtain ⟨e58, he59, HF⟩ := Z8 HF
    obtain ⟨b60, o61, hA, h63, h64, ra62⟩ := RS.atO (rs12.mono ((le15).trans le32)) he59
    obtain ⟨rfl, rfl⟩ := Za2 hA
    obtain ⟨cs65, r66, hc67⟩ := ra62
    obtain ⟨v68, v70, v72, v74, v76, v78, rfl, rs69, rs71, rs73, rs75, rs77, rs79⟩ := Zgz.1 r66
    obtain ⟨r80, hr81, HF⟩ := Z8 HF
    obtain ⟨e82, he83, HF⟩ := Z8 HF
    obtain ⟨b84, o85, hA, h87, h88, ra86⟩ := RS.atO (rs12.mono ((le15).trans le32)) he83
    obtain ⟨rfl, rfl⟩ := Za2 hA
    obtain ⟨cs89, r90, hc91⟩ := ra86
    obtain ⟨v92, v94, v96, v98, v100, v102, rfl, rs93, rs95, rs97, rs99, rs101, rs103⟩ := Zgz.1 r90
    obtain ⟨r104, hr105, HF⟩ := Z8 HF
    obtain ⟨e106, he107, HF⟩ := Z8 HF
    obtain ⟨b108, o109, hA, h111, h112, ra110⟩ := RS.atO (rs12.mono ((le15).trans le32)) he107
    obtain ⟨rfl, rfl⟩ := Za2 hA
    obtain ⟨cs113, r114, hc115⟩ := ra110
    obtain ⟨v116, v118, v120, v122, v124, v126, rfl, rs117, rs119, rs121, rs123, rs125, rs127⟩ := Zgz.1 r114
    obtain ⟨r128, hr129, HF⟩ := Z8 HF
    refine Z2x (m := 34) [(0, sl b36 o37 (xs1).length c11), (1, vi x4), (5, vi x17), (6, vi x18)] [0, 1, 5, 6] rfl (fun i v w h => match i with | 0 => v = vi x17 | 1 => v = sl b36 o37 (xs1).length c11 | 2 => v = vi x18 | 3 => v = pt b36 (o37 + Int.toNat x18 * 10) | 4 => v = pt b36 (o37 + Int.toNat x18 * 10 + 2) | 5 => v = v44 | 6 => v = vi x4 | 7 => v = vi r56 | 8 => v = vi (IntKind.i64.wrap (x17 + r56)) | 9 => v = sl b36 o37 (xs1).length c11 | 10 => v = vi x18 | 11 => v = pt b36 (o37 + Int.toNat x18 * 10) | 12 => v = pt b36 (o37 + Int.toNat x18 * 10 + 4) | 13 => v = v72 | 14 => v = vi x4 | 15 => v = vi r80 | 16 => v = vi (IntKind.i64.wrap ((IntKind.i64.wrap (x17 + r56)) + r80)) | 17 => v = sl b36 o37 (xs1).length c11 | 18 => v = vi x18 | 19 => v = pt b36 (o37 + Int.toNat x18 * 10) | 20 => v = pt b36 (o37 + Int.toNat x18 * 10 + 6) | 21 => v = v98 | 22 => v = vi x4 | 23 => v = vi (IntKind.i64.wrap (x4 + 1)) | 24 => v = vi r104 | 25 => v = vi (IntKind.i64.wrap ((IntKind.i64.wrap ((IntKind.i64.wrap (x17 + r56)) + r80)) + r104)) | 26 => v = sl b36 o37 (xs1).length c11 | 27 => v = vi x18 | 28 => v = pt b36 (o37 + Int.toNat x18 * 10) | 29 => v = pt b36 (o37 + Int.toNat x18 * 10 + 8) | 30 => v = v126 | 31 => v = vi x4 | 32 => v = vi (IntKind.i64.wrap (x4 + 1)) | 33 => v = vi r128 | _ => True) Z3f S33.sub rfl rfl rfl rfl rfl ?_ ?_ ?_
    ·intro i v w h w2 h2 hΦ hst
     match i, hΦ with
     | 0, hΦ | 1, hΦ | 2, hΦ | 3, hΦ | 4, hΦ | 5, hΦ | 6, hΦ | 7, hΦ | 8, hΦ | 9, hΦ | 10, hΦ | 11, hΦ | 12, hΦ | 13, hΦ | 14, hΦ | 15, hΦ | 16, hΦ | 17, hΦ | 18, hΦ | 19, hΦ | 20, hΦ | 21, hΦ | 22, hΦ | 23, hΦ | 24, hΦ | 25, hΦ | 26, hΦ | 27, hΦ | 28, hΦ | 29, hΦ | 30, hΦ | 31, hΦ | 32, hΦ | 33, hΦ => exact hΦ
     | i + 34, _ => exact trivial
    ·refine ⟨?_, ?_, ?_, ?_, ?_, ?_, ?_, ?_, ?_, ?_, ?_, ?_, ?_, ?_, ?_, ?_, ?_, ?_, ?_, ?_, ?_, ?_, ?_, ?_, ?_, ?_, ?_, ?_, ?_, ?_, ?_, ?_, ?_, ?_, trivial⟩
     ·intro a w130 h131 s132 hat hF
      exact Z3 hat rfl (Zu rfl) s132.sub (by exact rfl)
     ·intro a w130 h131 s132 hat hF
      exact Z3 hat rfl (Zu rfl) s132.sub (by exact rfl)
     ·intro a w130 h131 s132 hat hF
      exact Z3 hat rfl (Zu rfl) s132.sub (by exact rfl)
     ·intro a w130 h131 s132 hat hF
      exact Z3 (Z0 (Z0 hat (hF 1 23 rfl rfl)) (hF 2 24 rfl rfl)) rfl (Z07 rfl rfl Z1y Z0h h39 h40) s132.sub (by exact rfl)
     ·intro a w130 h131 s132 hat hF
      exact Z3 (Z0 hat (hF 3 25 rfl rfl)) rfl (Z2 rfl Z6z) s132.sub (by exact rfl)
     ·intro a w130 h131 s132 hat hF
      exact Z3 (Z0 hat (hF 4 26 rfl rfl)) rfl (Zc rfl Z2k (s132.sub.at_ _ _ _ ((fun i v hv => (s132.le).1 _ _ _ (hc43 i v hv)) 2 _ rfl))) s132.sub (by exact rfl)
     ·intro a w130 h131 s132 hat hF
      exact Z3 hat rfl (Zu rfl) s132.sub (by exact rfl)
     ·intro a w130 h131 s132 hat hF
      refine Z2d (Z0 (Z0 hat (hF 5 27 rfl rfl)) (hF 6 28 rfl rfl)) rfl (Ze (vs := [v44, vi x4]) rfl t_ent_26) (Z7x _ hr57 s132.sub (rs45.mono (s132.le))) ?_
      rintro _ w133 ⟨h134, s135, rfl⟩
      exact ⟨_, h134, rfl, s135, (by exact rfl)⟩
     ·intro a w130 h131 s132 hat hF
      exact Z3 (Z0 (Z0 hat (hF 0 22 rfl rfl)) (hF 7 29 rfl rfl)) rfl (Z3n rfl rfl) s132.sub (by exact rfl)
     ·intro a w130 h131 s132 hat hF
      exact Z3 hat rfl (Zu rfl) s132.sub (by exact rfl)
     ·intro a w130 h131 s132 hat hF
      exact Z3 hat rfl (Zu rfl) s132.sub (by exact rfl)
     ·intro a w130 h131 s132 hat hF
      exact Z3 (Z0 (Z0 hat (hF 9 31 rfl rfl)) (hF 10 32 rfl rfl)) rfl (Z07 rfl rfl Z1y Z0h h63 h64) s132.sub (by exact rfl)
     ·intro a w130 h131 s132 hat hF
      exact Z3 (Z0 hat (hF 11 33 rfl rfl)) rfl (Z2 rfl Z3o) s132.sub (by exact rfl)
     ·intro a w130 h131 s132 hat hF
      exact Z3 (Z0 hat (hF 12 34 rfl rfl)) rfl (Zc rfl Z2k (s132.sub.at_ _ _ _ ((fun i v hv => (s132.le).1 _ _ _ (hc67 i v hv)) 4 _ rfl))) s132.sub (by exact rfl)
     ·intro a w130 h131 s132 hat hF
      exact Z3 hat rfl (Zu rfl) s132.sub (by exact rfl)
     ·intro a w130 h131 s132 hat hF
      refine Z2d (Z0 (Z0 hat (hF 13 35 rfl rfl)) (hF 14 36 rfl rfl)) rfl (Ze (vs := [v72, vi x4]) rfl t_ent_26) (Z7x _ hr81 s132.sub (rs73.mono (s132.le))) ?_
      rintro _ w136 ⟨h137, s138, rfl⟩
      exact ⟨_, h137, rfl, s138, (by exact rfl)⟩
     ·intro a w130 h131 s132 hat hF
      exact Z3 (Z0 (Z0 hat (hF 8 30 rfl rfl)) (hF 15 37 rfl rfl)) rfl (Z3n rfl rfl) s132.sub (by exact rfl)
     ·intro a w130 h131 s132 hat hF
      exact Z3 hat rfl (Zu rfl) s132.sub (by exact rfl)
     ·intro a w130 h131 s132 hat hF
      exact Z3 hat rfl (Zu rfl) s132.sub (by exact rfl)
     ·intro a w130 h131 s132 hat hF
      exact Z3 (Z0 (Z0 hat (hF 17 39 rfl rfl)) (hF 18 40 rfl rfl)) rfl (Z07 rfl rfl Z1y Z0h h87 h88) s132.sub (by exact rfl)
     ·intro a w130 h131 s132 hat hF
      exact Z3 (Z0 hat (hF 19 41 rfl rfl)) rfl (Z2 rfl Z65) s132.sub (by exact rfl)
     ·intro a w130 h131 s132 hat hF
      exact Z3 (Z0 hat (hF 20 42 rfl rfl)) rfl (Zc rfl Z4f (s132.sub.at_ _ _ _ ((fun i v hv => (s132.le).1 _ _ _ (hc91 i v hv)) 6 _ rfl))) s132.sub (by exact rfl)
     ·intro a w130 h131 s132 hat hF
      exact Z3 hat rfl (Zu rfl) s132.sub (by exact rfl)
     ·intro a w130 h131 s132 hat hF
      exact Z3 (Z0 hat (hF 22 44 rfl rfl)) rfl (Z3n rfl rfl) s132.sub (by exact rfl)
     ·intro a w130 h131 s132 hat hF
      refine Z2d (Z0 (Z0 hat (hF 21 43 rfl rfl)) (hF 23 45 rfl rfl)) rfl (Ze (vs := [v98, vi (IntKind.i64.wrap (x4 + 1))]) rfl t_ent_42) ((IH _ (Nat.le_trans (Nat.le_of_succ_le hj21) (Nat.le_refl _))) hr105 s132.sub (rs99.mono (s132.le))) ?_
      rintro _ w139 ⟨h140, s141, rfl⟩
      exact ⟨_, h140, rfl, s141, (by exact rfl)⟩
     ·intro a w130 h131 s132 hat hF
      exact Z3 (Z0 (Z0 hat (hF 16 38 rfl rfl)) (hF 24 46 rfl rfl)) rfl (Z3n rfl rfl) s132.sub (by exact rfl)
     ·intro a w130 h131 s132 hat hF
      exact Z3 hat rfl (Zu rfl) s132.sub (by exact rfl)
     ·intro a w130 h131 s132 hat hF
      exact Z3 hat rfl (Zu rfl) s132.sub (by exact rfl)
     ·intro a w130 h131 s132 hat hF
      exact Z3 (Z0 (Z0 hat (hF 26 48 rfl rfl)) (hF 27 49 rfl rfl)) rfl (Z07 rfl rfl Z1y Z0h h111 h112) s132.sub (by exact rfl)
     ·intro a w130 h131 s132 hat hF
      exact Z3 (Z0 hat (hF 28 50 rfl rfl)) rfl (Z2 rfl Z5f) s132.sub (by exact rfl)
     ·intro a w130 h131 s132 hat hF
      exact Z3 (Z0 hat (hF 29 51 rfl rfl)) rfl (Zc rfl Z4f (s132.sub.at_ _ _ _ ((fun i v hv => (s132.le).1 _ _ _ (hc115 i v hv)) 8 _ rfl))) s132.sub (by exact rfl)
     ·intro a w130 h131 s132 hat hF
      exact Z3 hat rfl (Zu rfl) s132.sub (by exact rfl)
     ·intro a w130 h131 s132 hat hF
      exact Z3 (Z0 hat (hF 31 53 rfl rfl)) rfl (Z3n rfl rfl) s132.sub (by exact rfl)
     intro a w130 h131 s132 hat hF
     refine Z2d (Z0 (Z0 hat (hF 30 52 rfl rfl)) (hF 32 54 rfl rfl)) rfl (Ze (vs := [v126, vi (IntKind.i64.wrap (x4 + 1))]) rfl t_ent_42) ((IH _ (Nat.le_trans (Nat.le_of_succ_le hj21) (Nat.le_refl _))) hr129 s132.sub (rs127.mono (s132.le))) ?_
     rintro _ w142 ⟨h143, s144, rfl⟩
     exact ⟨_, h143, rfl, s144, (by exact rfl)⟩
    intro a w130 h131 s132 hat hF
    obtain hv0 := hF 0 22 (by decide) rfl
    obtain hv1 := hF 1 23 (by decide) rfl
    obtain hv2 := hF 2 24 (by decide) rfl
    obtain hv3 := hF 3 25 (by decide) rfl
    obtain hv4 := hF 4 26 (by decide) rfl
    obtain hv5 := hF 5 27 (by decide) rfl
    obtain hv6 := hF 6 28 (by decide) rfl
    obtain hv7 := hF 7 29 (by decide) rfl
    obtain hv8 := hF 8 30 (by decide) rfl
    obtain hv9 := hF 9 31 (by decide) rfl
    obtain hv10 := hF 10 32 (by decide) rfl
    obtain hv11 := hF 11 33 (by decide) rfl
    obtain hv12 := hF 12 34 (by decide) rfl
    obtain hv13 := hF 13 35 (by decide) rfl
    obtain hv14 := hF 14 36 (by decide) rfl
    obtain hv15 := hF 15 37 (by decide) rfl
    obtain hv16 := hF 16 38 (by decide) rfl
    obtain hv17 := hF 17 39 (by decide) rfl
    obtain hv18 := hF 18 40 (by decide) rfl
    obtain hv19 := hF 19 41 (by decide) rfl
    obtain hv20 := hF 20 42 (by decide) rfl
    obtain hv21 := hF 21 43 (by decide) rfl
    obtain hv22 := hF 22 44 (by decide) rfl
    obtain hv23 := hF 23 45 (by decide) rfl
    obtain hv24 := hF 24 46 (by decide) rfl
    obtain hv25 := hF 25 47 (by decide) rfl
    obtain hv26 := hF 26 48 (by decide) rfl
    obtain hv27 := hF 27 49 (by decide) rfl
    obtain hv28 := hF 28 50 (by decide) rfl
    obtain hv29 := hF 29 51 (by decide) rfl
    obtain hv30 := hF 30 52 (by decide) rfl
    obtain hv31 := hF 31 53 (by decide) rfl
    obtain hv32 := hF 32 54 (by decide) rfl
    obtain hv33 := hF 33 55 (by decide) rfl
    refine Z7z [(55, vi r128), (54, vi (IntKind.i64.wrap (x4 + 1))), (53, vi x4), (52, v126), (51, pt b36 (o37 + Int.toNat x18 * 10 + 8)), (50, pt b36 (o37 + Int.toNat x18 * 10)), (49, vi x18), (48, sl b36 o37 (xs1).length c11), (47, vi (IntKind.i64.wrap ((IntKind.i64.wrap ((IntKind.i64.wrap (x17 + r56)) + r80)) + r104))), (46, vi r104), (45, vi (IntKind.i64.wrap (x4 + 1))), (44, vi x4), (43, v98), (42, pt b36 (o37 + Int.toNat x18 * 10 + 6)), (41, pt b36 (o37 + Int.toNat x18 * 10)), (40, vi x18), (39, sl b36 o37 (xs1).length c11), (38, vi (IntKind.i64.wrap ((IntKind.i64.wrap (x17 + r56)) + r80))), (37, vi r80), (36, vi x4), (35, v72), (34, pt b36 (o37 + Int.toNat x18 * 10 + 4)), (33, pt b36 (o37 + Int.toNat x18 * 10)), (32, vi x18), (31, sl b36 o37 (xs1).length c11), (30, vi (IntKind.i64.wrap (x17 + r56))), (29, vi r56), (28, vi x4), (27, v44), (26, pt b36 (o37 + Int.toNat x18 * 10 + 2)), (25, pt b36 (o37 + Int.toNat x18 * 10)), (24, vi x18), (23, sl b36 o37 (xs1).length c11), (22, vi x17), (0, sl b36 o37 (xs1).length c11), (1, vi x4), (5, vi x17), (6, vi x18)] (Z0 (Z0 (Z0 (Z0 (Z0 (Z0 (Z0 (Z0 (Z0 (Z0 (Z0 (Z0 (Z0 (Z0 (Z0 (Z0 (Z0 (Z0 (Z0 (Z0 (Z0 (Z0 (Z0 (Z0 (Z0 (Z0 (Z0 (Z0 (Z0 (Z0 (Z0 (Z0 (Z0 (Z0 hat hv0) hv1) hv2) hv3) hv4) hv5) hv6) hv7) hv8) hv9) hv10) hv11) hv12) hv13) hv14) hv15) hv16) hv17) hv18) hv19) hv20) hv21) hv22) hv23) hv24) hv25) hv26) hv27) hv28) hv29) hv30) hv31) hv32) hv33) ?_
    have S145 := S33.trans0 s132
    refine Wv rfl (Z3n rfl rfl) <| Wa rfl rfl <| Z7 <| Z6 <| Zb <| Z1 <| Wa rfl rfl <| Z7 <| Z6 <| Z0p <| Z4m <| Z7y [0, 1, 5, 6, 7] [(0, sl b36 o37 (xs1).length c11), (1, vi x4), (5, vi (IntKind.i64.wrap ((IntKind.i64.wrap ((IntKind.i64.wrap ((IntKind.i64.wrap (x17 + r56)) + r80)) + r104)) + r128))), (6, vi x18), (7, vi 0)] rfl <| Z4k (K := j19) (fun j E w147 => ∃ (h146 : Hp) (x150 : Int) (x151 : Int), (Z12 j).law02_weigh_l5 xs1 x4 x18 x150 x151 = some r ∧ E = [(0, sl b36 o37 (xs1).length c11), (1, vi x4), (5, vi x150), (6, vi x18), (7, vi x151)] ∧ Stp [] w0 h0 w147 h146 ∧ Hle h131 h146) ?_ ?_ (j := j19) (Nat.le_refl _) ?_
    ·rintro E w147 ⟨_, _, _, HF, _⟩; cases HF
    ·rintro j152 hj154 IHL153 E w147 ⟨h146, x150, x151, HF, rfl, S149, le148⟩
     refine Z09 (fun E w189 => ∃ (h188 : Hp), Zgf j152 (Z12 j152) xs1 x4 x18 x150 x151 = some r ∧ E = [(0, sl b36 o37 (xs1).length c11), (1, vi x4), (5, vi x150), (6, vi x18), (7, vi x151)] ∧ Stp [] w0 h0 w189 h188 ∧ Hle h146 h188) ?_ ?_
     ·rintro E w189 ⟨h188, HF, rfl, S191, le190⟩
      refine Zb <| Z0p ?_
      obtain ⟨e192, he193, HF⟩ := Z8 HF
      obtain ⟨b194, o195, hA, h197, h198, ra196⟩ := RS.atO (rs12.mono ((le15).trans ((le32).trans ((s132.le).trans ((le148).trans le190))))) he193
      obtain ⟨rfl, rfl⟩ := Za2 hA
      obtain ⟨cs199, r200, hc201⟩ := ra196
      obtain ⟨v202, v204, v206, v208, v210, v212, rfl, rs203, rs205, rs207, rs209, rs211, rs213⟩ := Zgz.1 r200
      obtain ⟨A214, c215, rfl, rs216⟩ := RS.form rs211
      obtain ⟨e217, he218, HF⟩ := Z8 HF
      obtain ⟨b219, o220, rfl, h222, h223, ra221⟩ := RS.atO rs216 he218
      obtain ⟨cs224, r225, hc226⟩ := ra221
      obtain ⟨v227, v229, v231, rfl, rs228, rs230, rs232⟩ := rp_Ar.1 r225
      obtain ⟨A233, c234, rfl, rs235⟩ := RS.form rs230
      obtain ⟨e236, he237, HF⟩ := Z8 HF
      obtain ⟨b238, o239, hA, h241, h242, ra240⟩ := RS.atO (rs12.mono ((le15).trans ((le32).trans ((s132.le).trans ((le148).trans le190))))) he237
      obtain ⟨rfl, rfl⟩ := Za2 hA
      obtain ⟨cs243, r244, hc245⟩ := ra240
      obtain ⟨v246, v248, v250, v252, v254, v256, rfl, rs247, rs249, rs251, rs253, rs255, rs257⟩ := Zgz.1 r244
      obtain ⟨A258, c259, rfl, rs260⟩ := RS.form rs255
      obtain ⟨e261, he262, HF⟩ := Z8 HF
      obtain ⟨b263, o264, rfl, h266, h267, ra265⟩ := RS.atO rs260 he262
      obtain ⟨cs268, r269, hc270⟩ := ra265
      obtain ⟨v271, v273, v275, rfl, rs272, rs274, rs276⟩ := rp_Ar.1 r269
      obtain ⟨r277, hr278, HF⟩ := Z8 HF
      obtain ⟨e279, he280, HF⟩ := Z8 HF
      obtain ⟨b281, o282, hA, h284, h285, ra283⟩ := RS.atO (rs12.mono ((le15).trans ((le32).trans ((s132.le).trans ((le148).trans le190))))) he280
      obtain ⟨rfl, rfl⟩ := Za2 hA
      obtain ⟨cs286, r287, hc288⟩ := ra283
      obtain ⟨v289, v291, v293, v295, v297, v299, rfl, rs290, rs292, rs294, rs296, rs298, rs300⟩ := Zgz.1 r287
      obtain ⟨A301, c302, rfl, rs303⟩ := RS.form rs298
      obtain ⟨e304, he305, HF⟩ := Z8 HF
      obtain ⟨b306, o307, rfl, h309, h310, ra308⟩ := RS.atO rs303 he305
      obtain ⟨cs311, r312, hc313⟩ := ra308
      obtain ⟨v314, v316, v318, rfl, rs315, rs317, rs319⟩ := rp_Ar.1 r312
      obtain ⟨r320, hr321, HF⟩ := Z8 HF
      refine Z2x (m := 37) [(0, sl b36 o37 (xs1).length c11), (1, vi x4), (5, vi x150), (6, vi x18), (7, vi x151)] [0, 1, 5, 6, 7] rfl (fun i v w h => match i with | 0 => v = vi x150 | 1 => v = vi (IntKind.i64.wrap (x150 + 1)) | 2 => v = sl b36 o37 (xs1).length c11 | 3 => v = vi x18 | 4 => v = pt b36 (o37 + Int.toNat x18 * 10) | 5 => v = pt b36 (o37 + Int.toNat x18 * 10 + 7) | 6 => v = sl b219 o220 (e192.arms).length c215 | 7 => v = vi x151 | 8 => v = pt b219 (o220 + Int.toNat x151 * 3) | 9 => v = pt b219 (o220 + Int.toNat x151 * 3 + 1) | 10 => v = .slice A233 (e217.labels).length c234 | 11 => v = vi (e217.labels.length : Int) | 12 => v = vi (IntKind.i64.wrap ((IntKind.i64.wrap (x150 + 1)) + (e217.labels.length : Int))) | 13 => v = sl b36 o37 (xs1).length c11 | 14 => v = vi x18 | 15 => v = pt b36 (o37 + Int.toNat x18 * 10) | 16 => v = pt b36 (o37 + Int.toNat x18 * 10 + 7) | 17 => v = sl b263 o264 (e236.arms).length c259 | 18 => v = vi x151 | 19 => v = pt b263 (o264 + Int.toNat x151 * 3) | 20 => v = pt b263 (o264 + Int.toNat x151 * 3) | 21 => v = v271 | 22 => v = vi x4 | 23 => v = vi r277 | 24 => v = vi (IntKind.i64.wrap ((IntKind.i64.wrap ((IntKind.i64.wrap (x150 + 1)) + (e217.labels.length : Int))) + r277)) | 25 => v = sl b36 o37 (xs1).length c11 | 26 => v = vi x18 | 27 => v = pt b36 (o37 + Int.toNat x18 * 10) | 28 => v = pt b36 (o37 + Int.toNat x18 * 10 + 7) | 29 => v = sl b306 o307 (e279.arms).length c302 | 30 => v = vi x151 | 31 => v = pt b306 (o307 + Int.toNat x151 * 3) | 32 => v = pt b306 (o307 + Int.toNat x151 * 3 + 2) | 33 => v = v318 | 34 => v = vi x4 | 35 => v = vi (IntKind.i64.wrap (x4 + 1)) | 36 => v = vi r320 | _ => True) Z3f S191.sub rfl rfl rfl rfl rfl ?_ ?_ ?_
      ·intro i v w h w2 h2 hΦ hst
       match i, hΦ with
       | 0, hΦ | 1, hΦ | 2, hΦ | 3, hΦ | 4, hΦ | 5, hΦ | 6, hΦ | 7, hΦ | 8, hΦ | 9, hΦ | 10, hΦ | 11, hΦ | 12, hΦ | 13, hΦ | 14, hΦ | 15, hΦ | 16, hΦ | 17, hΦ | 18, hΦ | 19, hΦ | 20, hΦ | 21, hΦ | 22, hΦ | 23, hΦ | 24, hΦ | 25, hΦ | 26, hΦ | 27, hΦ | 28, hΦ | 29, hΦ | 30, hΦ | 31, hΦ | 32, hΦ | 33, hΦ | 34, hΦ | 35, hΦ | 36, hΦ => exact hΦ
       | i + 37, _ => exact trivial
      ·refine ⟨?_, ?_, ?_, ?_, ?_, ?_, ?_, ?_, ?_, ?_, ?_, ?_, ?_, ?_, ?_, ?_, ?_, ?_, ?_, ?_, ?_, ?_, ?_, ?_, ?_, ?_, ?_, ?_, ?_, ?_, ?_, ?_, ?_, ?_, ?_, ?_, ?_, trivial⟩
       ·intro a w322 h323 s324 hat hF
        exact Z3 hat rfl (Zu rfl) s324.sub (by exact rfl)
       ·intro a w322 h323 s324 hat hF
        exact Z3 (Z0 hat (hF 0 71 rfl rfl)) rfl (Z3n rfl rfl) s324.sub (by exact rfl)
       ·intro a w322 h323 s324 hat hF
        exact Z3 hat rfl (Zu rfl) s324.sub (by exact rfl)
       ·intro a w322 h323 s324 hat hF
        exact Z3 hat rfl (Zu rfl) s324.sub (by exact rfl)
       ·intro a w322 h323 s324 hat hF
        exact Z3 (Z0 (Z0 hat (hF 2 73 rfl rfl)) (hF 3 74 rfl rfl)) rfl (Z07 rfl rfl Z1y Z0h h197 h198) s324.sub (by exact rfl)
       ·intro a w322 h323 s324 hat hF
        exact Z3 (Z0 hat (hF 4 75 rfl rfl)) rfl (Z2 rfl Z19) s324.sub (by exact rfl)
       ·intro a w322 h323 s324 hat hF
        exact Z3 (Z0 hat (hF 5 76 rfl rfl)) rfl (Zc rfl Z4b (s324.sub.at_ _ _ _ ((fun i v hv => (s324.le).1 _ _ _ (hc201 i v hv)) 7 _ rfl))) s324.sub (by exact rfl)
       ·intro a w322 h323 s324 hat hF
        exact Z3 hat rfl (Zu rfl) s324.sub (by exact rfl)
       ·intro a w322 h323 s324 hat hF
        exact Z3 (Z0 (Z0 hat (hF 6 77 rfl rfl)) (hF 7 78 rfl rfl)) rfl (Z07 rfl rfl Z1u Z20 h222 h223) s324.sub (by exact rfl)
       ·intro a w322 h323 s324 hat hF
        exact Z3 (Z0 hat (hF 8 79 rfl rfl)) rfl (Z2 rfl Z42) s324.sub (by exact rfl)
       ·intro a w322 h323 s324 hat hF
        exact Z3 (Z0 hat (hF 9 80 rfl rfl)) rfl (Zc rfl Zc4 (s324.sub.at_ _ _ _ ((fun i v hv => (s324.le).1 _ _ _ (hc226 i v hv)) 1 _ rfl))) s324.sub (by exact rfl)
       ·intro a w322 h323 s324 hat hF
        exact Z3 (Z0 hat (hF 10 81 rfl rfl)) rfl (Z1n rfl Z3h) s324.sub (by exact rfl)
       ·intro a w322 h323 s324 hat hF
        exact Z3 (Z0 (Z0 hat (hF 1 72 rfl rfl)) (hF 11 82 rfl rfl)) rfl (Z3n rfl rfl) s324.sub (by exact rfl)
       ·intro a w322 h323 s324 hat hF
        exact Z3 hat rfl (Zu rfl) s324.sub (by exact rfl)
       ·intro a w322 h323 s324 hat hF
        exact Z3 hat rfl (Zu rfl) s324.sub (by exact rfl)
       ·intro a w322 h323 s324 hat hF
        exact Z3 (Z0 (Z0 hat (hF 13 84 rfl rfl)) (hF 14 85 rfl rfl)) rfl (Z07 rfl rfl Z1y Z0h h241 h242) s324.sub (by exact rfl)
       ·intro a w322 h323 s324 hat hF
        exact Z3 (Z0 hat (hF 15 86 rfl rfl)) rfl (Z2 rfl Z19) s324.sub (by exact rfl)
       ·intro a w322 h323 s324 hat hF
        exact Z3 (Z0 hat (hF 16 87 rfl rfl)) rfl (Zc rfl Z4b (s324.sub.at_ _ _ _ ((fun i v hv => (s324.le).1 _ _ _ (hc245 i v hv)) 7 _ rfl))) s324.sub (by exact rfl)
       ·intro a w322 h323 s324 hat hF
        exact Z3 hat rfl (Zu rfl) s324.sub (by exact rfl)
       ·intro a w322 h323 s324 hat hF
        exact Z3 (Z0 (Z0 hat (hF 17 88 rfl rfl)) (hF 18 89 rfl rfl)) rfl (Z07 rfl rfl Z1u Z20 h266 h267) s324.sub (by exact rfl)
       ·intro a w322 h323 s324 hat hF
        exact Z3 (Z0 hat (hF 19 90 rfl rfl)) rfl (Z2 rfl Z40) s324.sub (by exact rfl)
       ·intro a w322 h323 s324 hat hF
        exact Z3 (Z0 hat (hF 20 91 rfl rfl)) rfl (Zc rfl Z2k (s324.sub.at_ _ _ _ ((fun i v hv => (s324.le).1 _ _ _ (hc270 i v hv)) 0 _ rfl))) s324.sub (by exact rfl)
       ·intro a w322 h323 s324 hat hF
        exact Z3 hat rfl (Zu rfl) s324.sub (by exact rfl)
       ·intro a w322 h323 s324 hat hF
        refine Z2d (Z0 (Z0 hat (hF 21 92 rfl rfl)) (hF 22 93 rfl rfl)) rfl (Ze (vs := [v271, vi x4]) rfl t_ent_26) (Z7x _ hr278 s324.sub (rs272.mono (s324.le))) ?_
        rintro _ w325 ⟨h326, s327, rfl⟩
        exact ⟨_, h326, rfl, s327, (by exact rfl)⟩
       ·intro a w322 h323 s324 hat hF
        exact Z3 (Z0 (Z0 hat (hF 12 83 rfl rfl)) (hF 23 94 rfl rfl)) rfl (Z3n rfl rfl) s324.sub (by exact rfl)
       ·intro a w322 h323 s324 hat hF
        exact Z3 hat rfl (Zu rfl) s324.sub (by exact rfl)
       ·intro a w322 h323 s324 hat hF
        exact Z3 hat rfl (Zu rfl) s324.sub (by exact rfl)
       ·intro a w322 h323 s324 hat hF
        exact Z3 (Z0 (Z0 hat (hF 25 96 rfl rfl)) (hF 26 97 rfl rfl)) rfl (Z07 rfl rfl Z1y Z0h h284 h285) s324.sub (by exact rfl)
       ·intro a w322 h323 s324 hat hF
        exact Z3 (Z0 hat (hF 27 98 rfl rfl)) rfl (Z2 rfl Z19) s324.sub (by exact rfl)
       ·intro a w322 h323 s324 hat hF
        exact Z3 (Z0 hat (hF 28 99 rfl rfl)) rfl (Zc rfl Z4b (s324.sub.at_ _ _ _ ((fun i v hv => (s324.le).1 _ _ _ (hc288 i v hv)) 7 _ rfl))) s324.sub (by exact rfl)
       ·intro a w322 h323 s324 hat hF
        exact Z3 hat rfl (Zu rfl) s324.sub (by exact rfl)
       ·intro a w322 h323 s324 hat hF
        exact Z3 (Z0 (Z0 hat (hF 29 100 rfl rfl)) (hF 30 101 rfl rfl)) rfl (Z07 rfl rfl Z1u Z20 h309 h310) s324.sub (by exact rfl)
       ·intro a w322 h323 s324 hat hF
        exact Z3 (Z0 hat (hF 31 102 rfl rfl)) rfl (Z2 rfl Z8c) s324.sub (by exact rfl)
       ·intro a w322 h323 s324 hat hF
        exact Z3 (Z0 hat (hF 32 103 rfl rfl)) rfl (Zc rfl Z4f (s324.sub.at_ _ _ _ ((fun i v hv => (s324.le).1 _ _ _ (hc313 i v hv)) 2 _ rfl))) s324.sub (by exact rfl)
       ·intro a w322 h323 s324 hat hF
        exact Z3 hat rfl (Zu rfl) s324.sub (by exact rfl)
       ·intro a w322 h323 s324 hat hF
        exact Z3 (Z0 hat (hF 34 105 rfl rfl)) rfl (Z3n rfl rfl) s324.sub (by exact rfl)
       intro a w322 h323 s324 hat hF
       refine Z2d (Z0 (Z0 hat (hF 33 104 rfl rfl)) (hF 35 106 rfl rfl)) rfl (Ze (vs := [v318, vi (IntKind.i64.wrap (x4 + 1))]) rfl t_ent_42) ((IH _ (Nat.le_trans (Nat.le_of_succ_le hj154) (Nat.le_trans (Nat.le_of_succ_le hj21) (Nat.le_refl _)))) hr321 s324.sub (rs319.mono (s324.le))) ?_
       rintro _ w328 ⟨h329, s330, rfl⟩
       exact ⟨_, h329, rfl, s330, (by exact rfl)⟩
      intro a w322 h323 s324 hat hF
      obtain hv0 := hF 0 71 (by decide) rfl
      obtain hv1 := hF 1 72 (by decide) rfl
      obtain hv2 := hF 2 73 (by decide) rfl
      obtain hv3 := hF 3 74 (by decide) rfl
      obtain hv4 := hF 4 75 (by decide) rfl
      obtain hv5 := hF 5 76 (by decide) rfl
      obtain hv6 := hF 6 77 (by decide) rfl
      obtain hv7 := hF 7 78 (by decide) rfl
      obtain hv8 := hF 8 79 (by decide) rfl
      obtain hv9 := hF 9 80 (by decide) rfl
      obtain hv10 := hF 10 81 (by decide) rfl
      obtain hv11 := hF 11 82 (by decide) rfl
      obtain hv12 := hF 12 83 (by decide) rfl
      obtain hv13 := hF 13 84 (by decide) rfl
      obtain hv14 := hF 14 85 (by decide) rfl
      obtain hv15 := hF 15 86 (by decide) rfl
      obtain hv16 := hF 16 87 (by decide) rfl
      obtain hv17 := hF 17 88 (by decide) rfl
      obtain hv18 := hF 18 89 (by decide) rfl
      obtain hv19 := hF 19 90 (by decide) rfl
      obtain hv20 := hF 20 91 (by decide) rfl
      obtain hv21 := hF 21 92 (by decide) rfl
      obtain hv22 := hF 22 93 (by decide) rfl
      obtain hv23 := hF 23 94 (by decide) rfl
      obtain hv24 := hF 24 95 (by decide) rfl
      obtain hv25 := hF 25 96 (by decide) rfl
      obtain hv26 := hF 26 97 (by decide) rfl
      obtain hv27 := hF 27 98 (by decide) rfl
      obtain hv28 := hF 28 99 (by decide) rfl
      obtain hv29 := hF 29 100 (by decide) rfl
      obtain hv30 := hF 30 101 (by decide) rfl
      obtain hv31 := hF 31 102 (by decide) rfl
      obtain hv32 := hF 32 103 (by decide) rfl
      obtain hv33 := hF 33 104 (by decide) rfl
      obtain hv34 := hF 34 105 (by decide) rfl
      obtain hv35 := hF 35 106 (by decide) rfl
      obtain hv36 := hF 36 107 (by decide) rfl
      refine Z7z [(107, vi r320), (106, vi (IntKind.i64.wrap (x4 + 1))), (105, vi x4), (104, v318), (103, pt b306 (o307 + Int.toNat x151 * 3 + 2)), (102, pt b306 (o307 + Int.toNat x151 * 3)), (101, vi x151), (100, sl b306 o307 (e279.arms).length c302), (99, pt b36 (o37 + Int.toNat x18 * 10 + 7)), (98, pt b36 (o37 + Int.toNat x18 * 10)), (97, vi x18), (96, sl b36 o37 (xs1).length c11), (95, vi (IntKind.i64.wrap ((IntKind.i64.wrap ((IntKind.i64.wrap (x150 + 1)) + (e217.labels.length : Int))) + r277))), (94, vi r277), (93, vi x4), (92, v271), (91, pt b263 (o264 + Int.toNat x151 * 3)), (90, pt b263 (o264 + Int.toNat x151 * 3)), (89, vi x151), (88, sl b263 o264 (e236.arms).length c259), (87, pt b36 (o37 + Int.toNat x18 * 10 + 7)), (86, pt b36 (o37 + Int.toNat x18 * 10)), (85, vi x18), (84, sl b36 o37 (xs1).length c11), (83, vi (IntKind.i64.wrap ((IntKind.i64.wrap (x150 + 1)) + (e217.labels.length : Int)))), (82, vi (e217.labels.length : Int)), (81, .slice A233 (e217.labels).length c234), (80, pt b219 (o220 + Int.toNat x151 * 3 + 1)), (79, pt b219 (o220 + Int.toNat x151 * 3)), (78, vi x151), (77, sl b219 o220 (e192.arms).length c215), (76, pt b36 (o37 + Int.toNat x18 * 10 + 7)), (75, pt b36 (o37 + Int.toNat x18 * 10)), (74, vi x18), (73, sl b36 o37 (xs1).length c11), (72, vi (IntKind.i64.wrap (x150 + 1))), (71, vi x150), (0, sl b36 o37 (xs1).length c11), (1, vi x4), (5, vi x150), (6, vi x18), (7, vi x151)] (Z0 (Z0 (Z0 (Z0 (Z0 (Z0 (Z0 (Z0 (Z0 (Z0 (Z0 (Z0 (Z0 (Z0 (Z0 (Z0 (Z0 (Z0 (Z0 (Z0 (Z0 (Z0 (Z0 (Z0 (Z0 (Z0 (Z0 (Z0 (Z0 (Z0 (Z0 (Z0 (Z0 (Z0 (Z0 (Z0 (Z0 hat hv0) hv1) hv2) hv3) hv4) hv5) hv6) hv7) hv8) hv9) hv10) hv11) hv12) hv13) hv14) hv15) hv16) hv17) hv18) hv19) hv20) hv21) hv22) hv23) hv24) hv25) hv26) hv27) hv28) hv29) hv30) hv31) hv32) hv33) hv34) hv35) hv36) ?_
      have S331 := S191.trans0 s324
      refine Wv rfl (Z3n rfl rfl) <| Wa rfl rfl <| Z7 <| Z0a <| Z6 <| Z1 <| Wm rfl rfl <| Wv rfl (Z3n rfl rfl) <| Wa rfl rfl <| Z7 <| Z2c <| Z7y [0, 1, 5, 6, 7] [(0, sl b36 o37 (xs1).length c11), (1, vi x4), (5, vi (IntKind.i64.wrap ((IntKind.i64.wrap ((IntKind.i64.wrap ((IntKind.i64.wrap (x150 + 1)) + (e217.labels.length : Int))) + r277)) + r320))), (6, vi x18), (7, vi (IntKind.i64.wrap (x151 + 1)))] rfl ?_
      exact IHL153 j152 (Nat.le_refl _) _ _ ⟨h323, IntKind.i64.wrap ((IntKind.i64.wrap ((IntKind.i64.wrap ((IntKind.i64.wrap (x150 + 1)) + (e217.labels.length : Int))) + r277)) + r320), IntKind.i64.wrap (x151 + 1), HF, rfl, S331, (le148).trans ((le190).trans s324.le)⟩
     intro J332
     refine Z09 (fun E w182 => ∃ (h181 : Hp) (x185 : Bool), Z8d j152 (Z12 j152) xs1 x4 x18 x150 x151 x185 = some r ∧ E = [(0, sl b36 o37 (xs1).length c11), (1, vi x4), (5, vi x150), (6, vi x18), (7, vi x151), (68, .bool x185)] ∧ Stp [] w0 h0 w182 h181 ∧ Hle h146 h181) ?_ ?_
     ·rintro E w182 ⟨h181, x185, HF, rfl, S184, le183⟩
      refine Z17 HF rfl (fun HF => ?_) (fun HF => ?_)
      ·refine Zm <| Z0g [0, 1, 5, 6, 7] _ rfl ?_
       exact J332 ⟨h181, HF, rfl, S184, le183⟩
      refine Z4x <| Zz <| Zz <| Z1a <| Z0a <| Z6 <| Z1 <| Wm rfl rfl <| Wv rfl (Z3n rfl rfl) <| Wa rfl rfl <| Z7 <| Z2c <| Z7y [0, 1, 5, 6] [(0, sl b36 o37 (xs1).length c11), (1, vi x4), (5, vi x150), (6, vi (IntKind.i64.wrap (x18 + 1)))] rfl ?_
      exact IHL20 j152 (Nat.le_trans (Nat.le_of_succ_le hj154) (Nat.le_refl _)) _ _ ⟨h181, x150, IntKind.i64.wrap (x18 + 1), HF, rfl, S184, (le15).trans ((le32).trans ((s132.le).trans ((le148).trans le183)))⟩
     intro J187
     refine Z1 <| Wm rfl rfl <| Wm rfl rfl <| Wm rfl rfl ?_
     obtain ⟨e155, he156, HF⟩ := Z8 HF
     obtain ⟨b157, o158, hA, h160, h161, ra159⟩ := RS.atO (rs12.mono ((le15).trans ((le32).trans ((s132.le).trans le148)))) he156
     obtain ⟨rfl, rfl⟩ := Za2 hA
     obtain ⟨cs162, r163, hc164⟩ := ra159
     refine Wv rfl (Z07 rfl rfl Z1y Z0h h160 h161) <| Wv rfl (Z2 rfl Z19) ?_
     obtain ⟨v165, v167, v169, v171, v173, v175, rfl, rs166, rs168, rs170, rs172, rs174, rs176⟩ := Zgz.1 r163
     refine Wv rfl (Zc rfl Z4b (S149.sub.at_ _ _ _ (hc164 7 _ rfl))) ?_
     obtain ⟨A177, c178, rfl, rs179⟩ := RS.form rs174
     refine Wv rfl (Z1n rfl Z1u) <| Wv rfl (Zbt rfl rfl) <| Wm rfl rfl <| Z3g 65 HF rfl (fun HF => ?_) (fun HF => ?_)
     ·refine Wm rfl rfl <| Wv rfl (ov_leq rfl rfl) <| Wv rfl (Zh rfl rfl) <| Z7 <| Z0g [0, 1, 5, 6, 7, 68] _ rfl ?_
      exact J187 ⟨h146, decide ((x150 : Int) ≤ 2000), HF, rfl, S149, Hle.refl _⟩
     refine Wp rfl <| Wp rfl <| Wv rfl (Zg rfl rfl) <| Z7 <| Z0g [0, 1, 5, 6, 7, 68] _ rfl ?_
     exact J187 ⟨h146, false, HF, rfl, S149, Hle.refl _⟩
    exact ⟨h131, IntKind.i64.wrap ((IntKind.i64.wrap ((IntKind.i64.wrap ((IntKind.i64.wrap (x17 + r56)) + r80)) + r104)) + r128), 0, HF, rfl, S145, Hle.refl _⟩
   intro J333
   refine Z09 (fun E w24 => ∃ (h23 : Hp) (x27 : Bool), Z8h j19 (Z12 j19) xs1 x4 x17 x18 x27 = some r ∧ E = [(0, .slice A10 (xs1).length c11), (1, vi x4), (5, vi x17), (6, vi x18), (19, .bool x27)] ∧ Stp [] w0 h0 w24 h23 ∧ Hle h13 h23) ?_ ?_
   ·rintro E w24 ⟨h23, x27, HF, rfl, S26, le25⟩
    refine Z17 HF rfl (fun HF => ?_) (fun HF => ?_)
    ·refine Zm <| Z0g [0, 1, 5, 6] _ rfl ?_
     exact J333 ⟨h23, HF, rfl, S26, le25⟩
    refine Z4x <| Zz <| Zz <| Z1a <| Z6 <| Zb <| Z1 <| Wm rfl rfl <| Wa rfl rfl <| Z7 <| Z6 <| Z00 <| Zt rfl rfl ?_
    obtain rfl := Option.some.inj HF
    exact ⟨_, rfl, h23, S26, rfl⟩
   intro J29
   refine Z1 <| Wm rfl rfl <| Wm rfl rfl <| Wv rfl (Z1n rfl Z1y) <| Wv rfl (Zbt rfl rfl) <| Wm rfl rfl <| Z3g 16 HF rfl (fun HF => ?_) (fun HF => ?_)
   ·refine Wm rfl rfl <| Wv rfl (ov_leq rfl rfl) <| Wv rfl (Zh rfl rfl) <| Z7 <| Z0g [0, 1, 5, 6, 19] _ rfl ?_
    exact J29 ⟨h13, decide ((x17 : Int) ≤ 2000), HF, rfl, S16, Hle.refl _⟩
   refine Wp rfl <| Wp rfl <| Wv rfl (Zg rfl rfl) <| Z7 <| Z0g [0, 1, 5, 6, 19] _ rfl ?_
   exact J29 ⟨h13, false, HF, rfl, S16, Hle.refl _⟩
  exact ⟨h6, (xs1.length : Int), 0, HF, rfl, S9, Hle.refl _⟩
 intro J334
 refine Zb <| Z1 <| Wm rfl rfl <| Wv rfl (Ze7 rfl rfl) <| Z7 <| Z6 <| Z17 HF rfl (fun HF => ?_) (fun HF => ?_)
 ·refine Zb <| Z1 <| Wa rfl rfl <| Z7 <| Z6 <| Z00 <| Zi <| Zt rfl rfl ?_
  obtain rfl := Option.some.inj HF
  exact ⟨_, rfl, h0, S0, rfl⟩
 refine Zm <| Z0g [0, 1] _ rfl ?_
 exact J334 ⟨h0, HF, rfl, S0, Hle.refl _⟩
theorem all_law02_weigh : ∀ k j, j ≤ k → Zef (Z12 j).law02_weigh := by
  intro k
  induction k with
  | zero =>
    intro j hj
    obtain rfl : j = 0 := by omega
    exact (fun _ _ _ => by intro h; cases h)
  | succ k ih =>
    intro j hj
    by_cases h : j ≤ k
    · exact ih j h
    · obtain rfl : j = k + 1 := by omega
      exact s_law02_weigh k ih
theorem ok_law02_weigh (k : Nat) : Zef (Z50 k) := (all_law02_weigh k k (Nat.le_refl _))
def C_law02_small (φ : (List St) → Option Bool) : Prop := ∀ ⦃xs1 : List St⦄ ⦃r : Bool⦄, φ xs1 = some r → ∀ ⦃w0 : World⦄ ⦃h0 : Hp⦄ ⦃v2 : Value⦄, Sub h0 w0 → RS h0 v2 xs1 →
  Calls Tryz.prog 19 #[v2] w0 fun e w1 => ∃ v, e = .returned v ∧ ∃ h1, Stp [] w0 h0 w1 h1 ∧ v = .bool r
theorem s_law02_small (k : Nat) : C_law02_small (Zbp k) := by
 intro xs1 r HF w0 h0 v2 hs0 rs3
 have S0 : Stp [] w0 h0 w0 h0 := Stp.refl hs0 _
 refine Z4j (n := 6) Tryz.func19 rfl Tryz.ntmps19 rfl [(0, v2)] rfl <| Zb <| Z1 <| Wa rfl rfl <| Z7 <| Z6 <| Zb <| Z1 <| Wm rfl rfl ?_
 obtain ⟨r4, hr5, HF⟩ := Z8 HF
 refine Wc rfl (Ze (vs := [v2, vi 0]) rfl t_ent_42) (ok_law02_weigh _ hr5 S0.sub rs3) ?_
 rintro _ w7 ⟨h8, s9, rfl⟩
 have S10 := S0.trans0 s9
 refine Wv rfl (ov_leq rfl rfl) <| Wa rfl rfl <| Z7 <| Z6 <| Z00 <| Zt rfl rfl ?_
 obtain rfl := Option.some.inj HF
 exact ⟨_, rfl, h8, S10, rfl⟩
theorem ok_law02_small (k : Nat) : C_law02_small (Zbp k) := s_law02_small k
def Z7q (φ : (List ByteArray) → (List ByteArray) → Option Bool) : Prop := ∀ ⦃xs1 : List ByteArray⦄ ⦃xs4 : List ByteArray⦄ ⦃r : Bool⦄, φ xs1 xs4 = some r → ∀ ⦃w0 : World⦄ ⦃h0 : Hp⦄ ⦃v2 : Value⦄ ⦃v5 : Value⦄, Sub h0 w0 → RS h0 v2 xs1 → RS h0 v5 xs4 →
  Calls Tryz.prog 38 #[v2, v5] w0 fun e w1 => ∃ v, e = .returned v ∧ ∃ h1, Stp [] w0 h0 w1 h1 ∧ v = .bool r
theorem s_ref02_SameStrings (k : Nat) (IH : ∀ j, j ≤ k → Z7q (Z1s j).ref02_SameStrings) : Z7q (Zeg k (Z1s k)) := by
 intro xs1 xs4 r HF w0 h0 v2 v5 hs0 rs3 rs6
 have S0 : Stp [] w0 h0 w0 h0 := Stp.refl hs0 _
 refine Z4j (n := 26) Tryz.func38 rfl Tryz.ntmps38 rfl [(0, v2), (1, v5)] rfl <| Zb <| Z1 <| Wa rfl rfl <| Z7 <| Z6 <| Z09 (fun E w15 => ∃ (h14 : Hp), Zdj k (Z1s k) xs1 xs4 = some r ∧ E = [(0, v2), (1, v5)] ∧ Stp [] w0 h0 w15 h14 ∧ Hle h0 h14) ?_ ?_
 ·rintro E w15 ⟨h14, HF, rfl, S17, le16⟩
  refine Zb <| Zb <| Z1 <| Wa rfl rfl <| Z7 <| Z6 <| Z0p <| Z4m <| Z7y [0, 1, 5] [(0, v2), (1, v5), (5, vi 0)] rfl <| Z4k (K := k) (fun j E w19 => ∃ (h18 : Hp) (x22 : Int), (Z1s j).ref02_SameStrings_l2 xs1 xs4 x22 = some r ∧ E = [(0, v2), (1, v5), (5, vi x22)] ∧ Stp [] w0 h0 w19 h18 ∧ Hle h14 h18) ?_ ?_ (j := k) (Nat.le_refl _) ?_
  ·rintro E w19 ⟨_, _, HF, _⟩; cases HF
  ·rintro j23 hj25 IHL24 E w19 ⟨h18, x22, HF, rfl, S21, le20⟩
   refine Z09 (fun E w31 => ∃ (h30 : Hp), Zde j23 (Z1s j23) xs1 xs4 x22 = some r ∧ E = [(0, v2), (1, v5), (5, vi x22)] ∧ Stp [] w0 h0 w31 h30 ∧ Hle h18 h30) ?_ ?_
   ·rintro E w31 ⟨h30, HF, rfl, S33, le32⟩
    refine Z09 (fun E w66 => ∃ (h65 : Hp), Zd8 j23 (Z1s j23) xs1 xs4 x22 = some r ∧ E = [(0, v2), (1, v5), (5, vi x22)] ∧ Stp [] w0 h0 w66 h65 ∧ Hle h30 h65) ?_ ?_
    ·rintro E w66 ⟨h65, HF, rfl, S68, le67⟩
     refine Z1 <| Wm rfl rfl <| Wv rfl (Z3n rfl rfl) <| Wa rfl rfl <| Z7 <| Z2c <| Z7y [0, 1, 5] [(0, v2), (1, v5), (5, vi (IntKind.i64.wrap (x22 + 1)))] rfl ?_
     exact IHL24 j23 (Nat.le_refl _) _ _ ⟨h65, IntKind.i64.wrap (x22 + 1), HF, rfl, S68, (le20).trans ((le32).trans le67)⟩
    intro J69
    refine Z0p <| Zb ?_
    obtain ⟨A34, c35, rfl, rs36⟩ := RS.form (rs3.mono ((le16).trans ((le20).trans le32)))
    obtain ⟨e37, he38, HF⟩ := Z8 HF
    obtain ⟨b39, o40, rfl, h42, h43, ra41⟩ := RS.atO rs36 he38
    obtain ⟨cs44, r45, hc46⟩ := ra41
    obtain rfl := (show cs44 = _ from r45)
    obtain ⟨A47, c48, rfl, rs49⟩ := RS.form (rs6.mono ((le16).trans ((le20).trans le32)))
    obtain ⟨e50, he51, HF⟩ := Z8 HF
    obtain ⟨b52, o53, rfl, h55, h56, ra54⟩ := RS.atO rs49 he51
    obtain ⟨cs57, r58, hc59⟩ := ra54
    obtain rfl := (show cs57 = _ from r58)
    refine Z2x (m := 8) [(0, sl b39 o40 (xs1).length c35), (1, sl b52 o53 (xs4).length c48), (5, vi x22)] [0, 1, 5] rfl (fun i v w h => match i with | 0 => v = sl b39 o40 (xs1).length c35 | 1 => v = vi x22 | 2 => v = pt b39 (o40 + Int.toNat x22 * 1) | 3 => v = .string e37 | 4 => v = sl b52 o53 (xs4).length c48 | 5 => v = vi x22 | 6 => v = pt b52 (o53 + Int.toNat x22 * 1) | 7 => v = .string e50 | _ => True) Z3f S33.sub rfl rfl rfl rfl rfl ?_ ?_ ?_
    ·intro i v w h w2 h2 hΦ hst
     match i, hΦ with
     | 0, hΦ | 1, hΦ | 2, hΦ | 3, hΦ | 4, hΦ | 5, hΦ | 6, hΦ | 7, hΦ => exact hΦ
     | i + 8, _ => exact trivial
    ·refine ⟨?_, ?_, ?_, ?_, ?_, ?_, ?_, ?_, trivial⟩
     ·intro a w60 h61 s62 hat hF
      exact Z3 hat rfl (Zu rfl) s62.sub (by exact rfl)
     ·intro a w60 h61 s62 hat hF
      exact Z3 hat rfl (Zu rfl) s62.sub (by exact rfl)
     ·intro a w60 h61 s62 hat hF
      exact Z3 (Z0 (Z0 hat (hF 0 17 rfl rfl)) (hF 1 18 rfl rfl)) rfl (Z07 rfl rfl Z3u t_size_9 h42 h43) s62.sub (by exact rfl)
     ·intro a w60 h61 s62 hat hF
      exact Z3 (Z0 hat (hF 2 19 rfl rfl)) rfl (Zc rfl Z2r (s62.sub.at_ _ _ _ ((fun i v hv => (s62.le).1 _ _ _ (hc46 i v hv)) 0 _ rfl))) s62.sub (by exact rfl)
     ·intro a w60 h61 s62 hat hF
      exact Z3 hat rfl (Zu rfl) s62.sub (by exact rfl)
     ·intro a w60 h61 s62 hat hF
      exact Z3 hat rfl (Zu rfl) s62.sub (by exact rfl)
     ·intro a w60 h61 s62 hat hF
      exact Z3 (Z0 (Z0 hat (hF 4 21 rfl rfl)) (hF 5 22 rfl rfl)) rfl (Z07 rfl rfl Z3u t_size_9 h55 h56) s62.sub (by exact rfl)
     intro a w60 h61 s62 hat hF
     exact Z3 (Z0 hat (hF 6 23 rfl rfl)) rfl (Zc rfl Z2r (s62.sub.at_ _ _ _ ((fun i v hv => (s62.le).1 _ _ _ (hc59 i v hv)) 0 _ rfl))) s62.sub (by exact rfl)
    intro a w60 h61 s62 hat hF
    obtain hv0 := hF 0 17 (by decide) rfl
    obtain hv1 := hF 1 18 (by decide) rfl
    obtain hv2 := hF 2 19 (by decide) rfl
    obtain hv3 := hF 3 20 (by decide) rfl
    obtain hv4 := hF 4 21 (by decide) rfl
    obtain hv5 := hF 5 22 (by decide) rfl
    obtain hv6 := hF 6 23 (by decide) rfl
    obtain hv7 := hF 7 24 (by decide) rfl
    refine Z7z [(24, .string e50), (23, pt b52 (o53 + Int.toNat x22 * 1)), (22, vi x22), (21, sl b52 o53 (xs4).length c48), (20, .string e37), (19, pt b39 (o40 + Int.toNat x22 * 1)), (18, vi x22), (17, sl b39 o40 (xs1).length c35), (0, sl b39 o40 (xs1).length c35), (1, sl b52 o53 (xs4).length c48), (5, vi x22)] (Z0 (Z0 (Z0 (Z0 (Z0 (Z0 (Z0 (Z0 hat hv0) hv1) hv2) hv3) hv4) hv5) hv6) hv7) ?_
    have S63 := S33.trans0 s62
    refine Wv rfl (ov_neqS rfl rfl) <| Z7 <| Z6 <| Z17 HF rfl (fun HF => ?_) (fun HF => ?_)
    ·refine Zb <| Z1 <| Wa rfl rfl <| Z7 <| Z6 <| Z00 <| Zy <| Zi <| Zi <| Zy <| Zi <| Zt rfl rfl ?_
     obtain rfl := Option.some.inj HF
     exact ⟨_, rfl, h61, S63, rfl⟩
    refine Zm <| Z0a <| Z0g [0, 1, 5] _ rfl ?_
    exact J69 ⟨h61, HF, rfl, S63, s62.le⟩
   intro J70
   refine Zb <| Z1 <| Wm rfl rfl <| Wm rfl rfl ?_
   obtain ⟨A26, c27, rfl, rs28⟩ := RS.form (rs3.mono ((le16).trans le20))
   refine Wv rfl (Z1n rfl Z3u) <| Wv rfl (Zbt rfl rfl) <| Z7 <| Z6 <| Z17 HF rfl (fun HF => ?_) (fun HF => ?_)
   ·refine Zm <| Z0g [0, 1, 5] _ rfl ?_
    exact J70 ⟨h18, HF, rfl, S21, Hle.refl _⟩
   refine Z4x <| Zz <| Zz <| Z1a <| Z6 <| Zb <| Z1 <| Wa rfl rfl <| Z7 <| Z6 <| Z00 <| Zt rfl rfl ?_
   obtain rfl := Option.some.inj HF
   exact ⟨_, rfl, h18, S21, rfl⟩
  exact ⟨h14, 0, HF, rfl, S17, Hle.refl _⟩
 intro J71
 refine Zb <| Z1 <| Wm rfl rfl ?_
 obtain ⟨A7, c8, rfl, rs9⟩ := RS.form rs3
 refine Wv rfl (Z1n rfl Z3u) <| Wm rfl rfl ?_
 obtain ⟨A10, c11, rfl, rs12⟩ := RS.form rs6
 refine Wv rfl (Z1n rfl Z3u) <| Wv rfl (Z7e rfl rfl) <| Z7 <| Z6 <| Z17 HF rfl (fun HF => ?_) (fun HF => ?_)
 ·refine Zb <| Z1 <| Wa rfl rfl <| Z7 <| Z6 <| Z00 <| Zi <| Zt rfl rfl ?_
  obtain rfl := Option.some.inj HF
  exact ⟨_, rfl, h0, S0, rfl⟩
 refine Zm <| Z0g [0, 1] _ rfl ?_
 exact J71 ⟨h0, HF, rfl, S0, Hle.refl _⟩
theorem all_ref02_SameStrings : ∀ k j, j ≤ k → Z7q (Z1s j).ref02_SameStrings := by
  intro k
  induction k with
  | zero =>
    intro j hj
    obtain rfl : j = 0 := by omega
    exact (fun _ _ _ => by intro h; cases h)
  | succ k ih =>
    intro j hj
    by_cases h : j ≤ k
    · exact ih j h
    · obtain rfl : j = k + 1 := by omega
      exact s_ref02_SameStrings k ih
theorem ok_ref02_SameStrings (k : Nat) : Z7q (Z9v k) := (all_ref02_SameStrings k k (Nat.le_refl _))
def Zaj (φ : (List Int) → (List Int) → Option Bool) : Prop := ∀ ⦃xs1 : List Int⦄ ⦃xs4 : List Int⦄ ⦃r : Bool⦄, φ xs1 xs4 = some r → ∀ ⦃w0 : World⦄ ⦃h0 : Hp⦄ ⦃v2 : Value⦄ ⦃v5 : Value⦄, Sub h0 w0 → RS h0 v2 xs1 → RS h0 v5 xs4 →
  Calls Tryz.prog 40 #[v2, v5] w0 fun e w1 => ∃ v, e = .returned v ∧ ∃ h1, Stp [] w0 h0 w1 h1 ∧ v = .bool r
theorem s_ref02_SameInts (k : Nat) (IH : ∀ j, j ≤ k → Zaj (Z29 j).ref02_SameInts) : Zaj (m_ref02_SameInts k (Z29 k)) := by
 intro xs1 xs4 r HF w0 h0 v2 v5 hs0 rs3 rs6
 have S0 : Stp [] w0 h0 w0 h0 := Stp.refl hs0 _
 refine Z4j (n := 26) Tryz.func40 rfl Tryz.ntmps40 rfl [(0, v2), (1, v5)] rfl <| Zb <| Z1 <| Wa rfl rfl <| Z7 <| Z6 <| Z09 (fun E w15 => ∃ (h14 : Hp), Zh2 k (Z29 k) xs1 xs4 = some r ∧ E = [(0, v2), (1, v5)] ∧ Stp [] w0 h0 w15 h14 ∧ Hle h0 h14) ?_ ?_
 ·rintro E w15 ⟨h14, HF, rfl, S17, le16⟩
  refine Zb <| Zb <| Z1 <| Wa rfl rfl <| Z7 <| Z6 <| Z0p <| Z4m <| Z7y [0, 1, 5] [(0, v2), (1, v5), (5, vi 0)] rfl <| Z4k (K := k) (fun j E w19 => ∃ (h18 : Hp) (x22 : Int), (Z29 j).ref02_SameInts_l2 xs1 xs4 x22 = some r ∧ E = [(0, v2), (1, v5), (5, vi x22)] ∧ Stp [] w0 h0 w19 h18 ∧ Hle h14 h18) ?_ ?_ (j := k) (Nat.le_refl _) ?_
  ·rintro E w19 ⟨_, _, HF, _⟩; cases HF
  ·rintro j23 hj25 IHL24 E w19 ⟨h18, x22, HF, rfl, S21, le20⟩
   refine Z09 (fun E w31 => ∃ (h30 : Hp), Zh4 j23 (Z29 j23) xs1 xs4 x22 = some r ∧ E = [(0, v2), (1, v5), (5, vi x22)] ∧ Stp [] w0 h0 w31 h30 ∧ Hle h18 h30) ?_ ?_
   ·rintro E w31 ⟨h30, HF, rfl, S33, le32⟩
    refine Z09 (fun E w66 => ∃ (h65 : Hp), Zh7 j23 (Z29 j23) xs1 xs4 x22 = some r ∧ E = [(0, v2), (1, v5), (5, vi x22)] ∧ Stp [] w0 h0 w66 h65 ∧ Hle h30 h65) ?_ ?_
    ·rintro E w66 ⟨h65, HF, rfl, S68, le67⟩
     refine Z1 <| Wm rfl rfl <| Wv rfl (Z3n rfl rfl) <| Wa rfl rfl <| Z7 <| Z2c <| Z7y [0, 1, 5] [(0, v2), (1, v5), (5, vi (IntKind.i64.wrap (x22 + 1)))] rfl ?_
     exact IHL24 j23 (Nat.le_refl _) _ _ ⟨h65, IntKind.i64.wrap (x22 + 1), HF, rfl, S68, (le20).trans ((le32).trans le67)⟩
    intro J69
    refine Z0p <| Zb ?_
    obtain ⟨A34, c35, rfl, rs36⟩ := RS.form (rs3.mono ((le16).trans ((le20).trans le32)))
    obtain ⟨e37, he38, HF⟩ := Z8 HF
    obtain ⟨b39, o40, rfl, h42, h43, ra41⟩ := RS.atO rs36 he38
    obtain ⟨cs44, r45, hc46⟩ := ra41
    obtain rfl := (show cs44 = _ from r45)
    obtain ⟨A47, c48, rfl, rs49⟩ := RS.form (rs6.mono ((le16).trans ((le20).trans le32)))
    obtain ⟨e50, he51, HF⟩ := Z8 HF
    obtain ⟨b52, o53, rfl, h55, h56, ra54⟩ := RS.atO rs49 he51
    obtain ⟨cs57, r58, hc59⟩ := ra54
    obtain rfl := (show cs57 = _ from r58)
    refine Z2x (m := 8) [(0, sl b39 o40 (xs1).length c35), (1, sl b52 o53 (xs4).length c48), (5, vi x22)] [0, 1, 5] rfl (fun i v w h => match i with | 0 => v = sl b39 o40 (xs1).length c35 | 1 => v = vi x22 | 2 => v = pt b39 (o40 + Int.toNat x22 * 1) | 3 => v = vi e37 | 4 => v = sl b52 o53 (xs4).length c48 | 5 => v = vi x22 | 6 => v = pt b52 (o53 + Int.toNat x22 * 1) | 7 => v = vi e50 | _ => True) Z3f S33.sub rfl rfl rfl rfl rfl ?_ ?_ ?_
    ·intro i v w h w2 h2 hΦ hst
     match i, hΦ with
     | 0, hΦ | 1, hΦ | 2, hΦ | 3, hΦ | 4, hΦ | 5, hΦ | 6, hΦ | 7, hΦ => exact hΦ
     | i + 8, _ => exact trivial
    ·refine ⟨?_, ?_, ?_, ?_, ?_, ?_, ?_, ?_, trivial⟩
     ·intro a w60 h61 s62 hat hF
      exact Z3 hat rfl (Zu rfl) s62.sub (by exact rfl)
     ·intro a w60 h61 s62 hat hF
      exact Z3 hat rfl (Zu rfl) s62.sub (by exact rfl)
     ·intro a w60 h61 s62 hat hF
      exact Z3 (Z0 (Z0 hat (hF 0 17 rfl rfl)) (hF 1 18 rfl rfl)) rfl (Z07 rfl rfl Z3h Z1p h42 h43) s62.sub (by exact rfl)
     ·intro a w60 h61 s62 hat hF
      exact Z3 (Z0 hat (hF 2 19 rfl rfl)) rfl (Zc rfl Z0f (s62.sub.at_ _ _ _ ((fun i v hv => (s62.le).1 _ _ _ (hc46 i v hv)) 0 _ rfl))) s62.sub (by exact rfl)
     ·intro a w60 h61 s62 hat hF
      exact Z3 hat rfl (Zu rfl) s62.sub (by exact rfl)
     ·intro a w60 h61 s62 hat hF
      exact Z3 hat rfl (Zu rfl) s62.sub (by exact rfl)
     ·intro a w60 h61 s62 hat hF
      exact Z3 (Z0 (Z0 hat (hF 4 21 rfl rfl)) (hF 5 22 rfl rfl)) rfl (Z07 rfl rfl Z3h Z1p h55 h56) s62.sub (by exact rfl)
     intro a w60 h61 s62 hat hF
     exact Z3 (Z0 hat (hF 6 23 rfl rfl)) rfl (Zc rfl Z0f (s62.sub.at_ _ _ _ ((fun i v hv => (s62.le).1 _ _ _ (hc59 i v hv)) 0 _ rfl))) s62.sub (by exact rfl)
    intro a w60 h61 s62 hat hF
    obtain hv0 := hF 0 17 (by decide) rfl
    obtain hv1 := hF 1 18 (by decide) rfl
    obtain hv2 := hF 2 19 (by decide) rfl
    obtain hv3 := hF 3 20 (by decide) rfl
    obtain hv4 := hF 4 21 (by decide) rfl
    obtain hv5 := hF 5 22 (by decide) rfl
    obtain hv6 := hF 6 23 (by decide) rfl
    obtain hv7 := hF 7 24 (by decide) rfl
    refine Z7z [(24, vi e50), (23, pt b52 (o53 + Int.toNat x22 * 1)), (22, vi x22), (21, sl b52 o53 (xs4).length c48), (20, vi e37), (19, pt b39 (o40 + Int.toNat x22 * 1)), (18, vi x22), (17, sl b39 o40 (xs1).length c35), (0, sl b39 o40 (xs1).length c35), (1, sl b52 o53 (xs4).length c48), (5, vi x22)] (Z0 (Z0 (Z0 (Z0 (Z0 (Z0 (Z0 (Z0 hat hv0) hv1) hv2) hv3) hv4) hv5) hv6) hv7) ?_
    have S63 := S33.trans0 s62
    refine Wv rfl (Z7e rfl rfl) <| Z7 <| Z6 <| Z17 HF rfl (fun HF => ?_) (fun HF => ?_)
    ·refine Zb <| Z1 <| Wa rfl rfl <| Z7 <| Z6 <| Z00 <| Zy <| Zi <| Zi <| Zy <| Zi <| Zt rfl rfl ?_
     obtain rfl := Option.some.inj HF
     exact ⟨_, rfl, h61, S63, rfl⟩
    refine Zm <| Z0a <| Z0g [0, 1, 5] _ rfl ?_
    exact J69 ⟨h61, HF, rfl, S63, s62.le⟩
   intro J70
   refine Zb <| Z1 <| Wm rfl rfl <| Wm rfl rfl ?_
   obtain ⟨A26, c27, rfl, rs28⟩ := RS.form (rs3.mono ((le16).trans le20))
   refine Wv rfl (Z1n rfl Z3h) <| Wv rfl (Zbt rfl rfl) <| Z7 <| Z6 <| Z17 HF rfl (fun HF => ?_) (fun HF => ?_)
   ·refine Zm <| Z0g [0, 1, 5] _ rfl ?_
    exact J70 ⟨h18, HF, rfl, S21, Hle.refl _⟩
   refine Z4x <| Zz <| Zz <| Z1a <| Z6 <| Zb <| Z1 <| Wa rfl rfl <| Z7 <| Z6 <| Z00 <| Zt rfl rfl ?_
   obtain rfl := Option.some.inj HF
   exact ⟨_, rfl, h18, S21, rfl⟩
  exact ⟨h14, 0, HF, rfl, S17, Hle.refl _⟩
 intro J71
 refine Zb <| Z1 <| Wm rfl rfl ?_
 obtain ⟨A7, c8, rfl, rs9⟩ := RS.form rs3
 refine Wv rfl (Z1n rfl Z3h) <| Wm rfl rfl ?_
 obtain ⟨A10, c11, rfl, rs12⟩ := RS.form rs6
 refine Wv rfl (Z1n rfl Z3h) <| Wv rfl (Z7e rfl rfl) <| Z7 <| Z6 <| Z17 HF rfl (fun HF => ?_) (fun HF => ?_)
 ·refine Zb <| Z1 <| Wa rfl rfl <| Z7 <| Z6 <| Z00 <| Zi <| Zt rfl rfl ?_
  obtain rfl := Option.some.inj HF
  exact ⟨_, rfl, h0, S0, rfl⟩
 refine Zm <| Z0g [0, 1] _ rfl ?_
 exact J71 ⟨h0, HF, rfl, S0, Hle.refl _⟩
theorem all_ref02_SameInts : ∀ k j, j ≤ k → Zaj (Z29 j).ref02_SameInts := by
  intro k
  induction k with
  | zero =>
    intro j hj
    obtain rfl : j = 0 := by omega
    exact (fun _ _ _ => by intro h; cases h)
  | succ k ih =>
    intro j hj
    by_cases h : j ≤ k
    · exact ih j h
    · obtain rfl : j = k + 1 := by omega
      exact s_ref02_SameInts k ih
theorem Zh5 (k : Nat) : Zaj (Zdt k) := (all_ref02_SameInts k k (Nat.le_refl _))
def Zg7 (φ : (List St) → (List St) → Option Bool) : Prop := ∀ ⦃xs1 : List St⦄ ⦃xs4 : List St⦄ ⦃r : Bool⦄, φ xs1 xs4 = some r → ∀ ⦃w0 : World⦄ ⦃h0 : Hp⦄ ⦃v2 : Value⦄ ⦃v5 : Value⦄, Sub h0 w0 → RS h0 v2 xs1 → RS h0 v5 xs4 →
  Calls Tryz.prog 15 #[v2, v5] w0 fun e w1 => ∃ v, e = .returned v ∧ ∃ h1, Stp [] w0 h0 w1 h1 ∧ v = .bool r
theorem s_ref02_Same (k : Nat) (IH : ∀ j, j ≤ k → Zg7 (Z0u j).ref02_Same) : Zg7 (Zb6 k (Z0u k)) := by
 intro xs1 xs4 r HF w0 h0 v2 v5 hs0 rs3 rs6
 have S0 : Stp [] w0 h0 w0 h0 := Stp.refl hs0 _
 refine Z4j (n := 154) Tryz.func15 rfl Tryz.ntmps15 rfl [(0, v2), (1, v5)] rfl <| Zb <| Z1 <| Wa rfl rfl <| Z7 <| Z6 <| Z09 (fun E w15 => ∃ (h14 : Hp), ref02_Same_j1 k (Z0u k) xs1 xs4 = some r ∧ E = [(0, v2), (1, v5)] ∧ Stp [] w0 h0 w15 h14 ∧ Hle h0 h14) ?_ ?_
 ·rintro E w15 ⟨h14, HF, rfl, S17, le16⟩
  refine Zb <| Zb <| Z1 <| Wa rfl rfl <| Z7 <| Z6 <| Z0p <| Z4m <| Z7y [0, 1, 5] [(0, v2), (1, v5), (5, vi 0)] rfl <| Z4k (K := k) (fun j E w19 => ∃ (h18 : Hp) (x22 : Int), (Z0u j).ref02_Same_l2 xs1 xs4 x22 = some r ∧ E = [(0, v2), (1, v5), (5, vi x22)] ∧ Stp [] w0 h0 w19 h18 ∧ Hle h14 h18) ?_ ?_ (j := k) (Nat.le_refl _) ?_
  ·rintro E w19 ⟨_, _, HF, _⟩; cases HF
  ·rintro j23 hj25 IHL24 E w19 ⟨h18, x22, HF, rfl, S21, le20⟩
   refine Z09 (fun E w31 => ∃ (h30 : Hp), ref02_Same_j3 j23 (Z0u j23) xs1 xs4 x22 = some r ∧ E = [(0, v2), (1, v5), (5, vi x22)] ∧ Stp [] w0 h0 w31 h30 ∧ Hle h18 h30) ?_ ?_
   ·rintro E w31 ⟨h30, HF, rfl, S33, le32⟩
    refine Z09 (fun E w408 => ∃ (q411 : Nat) (h407 : Hp), q411 ≤ j23 ∧ Zgk q411 (Z0u q411) xs1 xs4 x22 = some r ∧ E = [(0, v2), (1, v5), (5, vi x22)] ∧ Stp [] w0 h0 w408 h407 ∧ Hle h30 h407) ?_ ?_
    ·rintro E w408 ⟨q411, h407, hq412, HF, rfl, S410, le409⟩
     refine Z1 <| Wm rfl rfl <| Wv rfl (Z3n rfl rfl) <| Wa rfl rfl <| Z7 <| Z2c <| Z7y [0, 1, 5] [(0, v2), (1, v5), (5, vi (IntKind.i64.wrap (x22 + 1)))] rfl ?_
     exact IHL24 q411 (Nat.le_trans hq412 (Nat.le_refl _)) _ _ ⟨h407, IntKind.i64.wrap (x22 + 1), HF, rfl, S410, (le20).trans ((le32).trans le409)⟩
    intro J413
    refine Z0p <| Zb ?_
    obtain ⟨A34, c35, rfl, rs36⟩ := RS.form (rs3.mono ((le16).trans ((le20).trans le32)))
    obtain ⟨e37, he38, HF⟩ := Z8 HF
    obtain ⟨b39, o40, rfl, h42, h43, ra41⟩ := RS.atO rs36 he38
    obtain ⟨cs44, r45, hc46⟩ := ra41
    obtain ⟨A47, c48, rfl, rs49⟩ := RS.form (rs6.mono ((le16).trans ((le20).trans le32)))
    obtain ⟨e50, he51, HF⟩ := Z8 HF
    obtain ⟨b52, o53, rfl, h55, h56, ra54⟩ := RS.atO rs49 he51
    obtain ⟨cs57, r58, hc59⟩ := ra54
    refine WC.drawnF (m := 10) [(0, sl b39 o40 (xs1).length c35), (1, sl b52 o53 (xs4).length c48), (5, vi x22)] [0, 1, 5] [4, 5, 6, 7] [8, 9] rfl (fun i v w h => match i with | 0 => v = sl b39 o40 (xs1).length c35 | 1 => v = vi x22 | 2 => v = pt b39 (o40 + Int.toNat x22 * 10) | 3 => v = .agg cs44.toArray | 4 => v = sl b52 o53 (xs4).length c48 | 5 => v = vi x22 | 6 => v = pt b52 (o53 + Int.toNat x22 * 10) | 7 => v = .agg cs57.toArray | 8 => ∃ (b60 : Nat), v = pt b60 0 ∧ OB w h b60 56 [vi 0, .string b'47, .slice none 0 0, .slice none 0 0, .slice none 0 0, vi 0, .slice none 0 0, .slice none 0 0, .slice none 0 0, .bool false] ∧ w0.heap.size ≤ b60 | 9 => ∃ (b63 : Nat), v = pt b63 0 ∧ OB w h b63 56 [vi 0, .string b'47, .slice none 0 0, .slice none 0 0, .slice none 0 0, vi 0, .slice none 0 0, .slice none 0 0, .slice none 0 0, .bool false] ∧ w0.heap.size ≤ b63 | _ => True) Z3f S33.sub rfl rfl rfl rfl rfl rfl rfl ?_ ?_ ?_
    ·intro i v w h w2 h2 hΦ hst
     match i, hΦ with
     | 0, hΦ | 1, hΦ | 2, hΦ | 3, hΦ | 4, hΦ | 5, hΦ | 6, hΦ | 7, hΦ => exact hΦ
     | 8, ⟨b60, hv8, ob61, g62⟩ => exact ⟨b60, hv8, ob61.step0 hst, g62⟩
     | 9, ⟨b63, hv9, ob64, g66⟩ => exact ⟨b63, hv9, ob64.step0 hst, g66⟩
     | i + 10, _ => exact trivial
    ·refine (FrontsF.front rfl ?_ (FrontsF.front rfl ?_ (FrontsF.front rfl ?_ (FrontsF.front rfl ?_ (FrontsF.float rfl ?_ (FrontsF.float rfl ?_ (FrontsF.float rfl ?_ (FrontsF.float rfl ?_ (FrontsF.al rfl ?_ (FrontsF.al rfl ?_ FrontsF.nil))))))))))
     ·intro a w67 h68 s69 hat hF
      exact Z3 hat rfl (Zu rfl) s69.sub (by exact rfl)
     ·intro a w67 h68 s69 hat hF
      exact Z3 hat rfl (Zu rfl) s69.sub (by exact rfl)
     ·intro a w67 h68 s69 hat hF
      exact Z3 (Z0 (Z0 hat (hF 0 20 rfl rfl)) (hF 1 21 rfl rfl)) rfl (Z07 rfl rfl Z1y Z0h h42 h43) s69.sub (by exact rfl)
     ·intro a w67 h68 s69 hat hF
      exact Z3 (Z0 hat (hF 2 22 rfl rfl)) rfl (Z16 (cs := cs44) rfl Z4g (by rw [Rp.len (Rp.mono (s69.le) r45)]; exact Z0h) (fun j v hv => s69.sub.at_ _ _ _ ((fun i v hv => (s69.le).1 _ _ _ (hc46 i v hv)) j v hv))) s69.sub (by exact rfl)
     ·intro a w67 h68 ww hsw s69 hat hF
      exact front_float hat rfl (Zu rfl) (by exact rfl)
     ·intro a w67 h68 ww hsw s69 hat hF
      exact front_float hat rfl (Zu rfl) (by exact rfl)
     ·intro a w67 h68 ww hsw s69 hat hF
      exact front_float (Z0 (Z0 hat (hF 4 24 rfl rfl)) (hF 5 25 rfl rfl)) rfl (Z07 rfl rfl Z1y Z0h h55 h56) (by exact rfl)
     ·intro a w67 h68 ww hsw s69 hat hF
      exact front_float (Z0 hat (hF 6 26 rfl rfl)) rfl (Z16 (cs := cs57) rfl Z4g (by rw [Rp.len (Rp.mono (s69.le) r58)]; exact Z0h) (fun j v hv => hsw.at_ _ _ _ ((fun i v hv => (s69.le).1 _ _ _ (hc59 i v hv)) j v hv))) (by exact rfl)
     ·intro a w67 h68 s69 hat hF
      exact frontA_alloc (zs := [vi 0, .string b'47, .slice none 0 0, .slice none 0 0, .slice none 0 0, vi 0, .slice none 0 0, .slice none 0 0, .slice none 0 0, .bool false]) hat rfl Z2n rfl s69.sub (fun w72 b60 hb70 s71 ob61 => ⟨b60, rfl, ob61, by rw [hb70]; exact Nat.le_trans S33.size s69.size⟩)
     intro a w67 h68 s69 hat hF
     exact frontA_alloc (zs := [vi 0, .string b'47, .slice none 0 0, .slice none 0 0, .slice none 0 0, vi 0, .slice none 0 0, .slice none 0 0, .slice none 0 0, .bool false]) hat rfl Z2n rfl s69.sub (fun w75 b63 hb73 s74 ob64 => ⟨b63, rfl, ob64, by rw [hb73]; exact Nat.le_trans S33.size s69.size⟩)
    intro a w67 h68 s69 hat hF hD
    obtain ⟨v76, v78, v80, v82, v84, v86, rfl, rs77, rs79, rs81, rs83, rs85, rs87⟩ := Zgz.1 (Rp.mono (s69.le) r45)
    obtain hv0 := hF 0 20 (by decide) rfl rfl
    obtain hv1 := hF 1 21 (by decide) rfl rfl
    obtain hv2 := hF 2 22 (by decide) rfl rfl
    obtain hv3 := hF 3 23 (by decide) rfl rfl
    obtain ⟨b60, hv8, ob61, g62⟩ := hF 8 6 (by decide) rfl rfl
    obtain ⟨b63, hv9, ob64, g66⟩ := hF 9 7 (by decide) rfl rfl
    have ne65 := ptr_ne (hD 9 8 _ _ (by decide) (by decide) rfl rfl rfl) hv8 hv9
    have S88 := S33.trans0 s69
    refine F.store [(7, pt b63 0), (6, pt b60 0), (23, .agg #[vi e37.op, .string e37.name, v76, v78, v80, vi e37.n, v82, v84, v86, .bool e37.els]), (22, pt b39 (o40 + Int.toNat x22 * 10)), (21, vi x22), (20, sl b39 o40 (xs1).length c35), (0, sl b39 o40 (xs1).length c35), (1, sl b52 o53 (xs4).length c48), (5, vi x22)] (Z0 (Z0 (Z0 (Z0 (Z0 (Z0 hat hv0) hv1) hv2) hv3) hv8) hv9) rfl (vs := [vi e37.op, .string e37.name, v76, v78, v80, vi e37.n, v82, v84, v86, .bool e37.els]) rfl rfl rfl Z0h (Z5 rfl (Z5 rfl (Z5 (RS.one rs77) (Z5 (RS.one rs79) (Z5 (RS.one rs81) (Z5 rfl (Z5 (RS.one rs83) (Z5 (RS.one rs85) (Z5 (RS.one rs87) (Z5 rfl Zx)))))))))) ob61 S88.sub (by simp) (ds := [vi e37.op, .string e37.name, v76, v78, v80, vi e37.n, v82, v84, v86, .bool e37.els]) rfl (fun w89 s90 ob91 a2 hat2 hG => ?_)
    have S92 := S88.trans1 s90 (.inr g62)
    obtain hv4 := hG 4 24 (by decide) rfl rfl
    obtain hv5 := hG 5 25 (by decide) rfl rfl
    obtain hv6 := hG 6 26 (by decide) rfl rfl
    obtain hv7 := hG 7 27 (by decide) rfl rfl
    refine Z7z [(27, .agg cs57.toArray), (26, pt b52 (o53 + Int.toNat x22 * 10)), (25, vi x22), (24, sl b52 o53 (xs4).length c48), (7, pt b63 0), (6, pt b60 0), (23, .agg #[vi e37.op, .string e37.name, v76, v78, v80, vi e37.n, v82, v84, v86, .bool e37.els]), (22, pt b39 (o40 + Int.toNat x22 * 10)), (21, vi x22), (20, sl b39 o40 (xs1).length c35), (0, sl b39 o40 (xs1).length c35), (1, sl b52 o53 (xs4).length c48), (5, vi x22)] (Z0 (Z0 (Z0 (Z0 hat2 hv4) hv5) hv6) hv7) ?_
    have ob93 := (ob64.step1 s90 (Ne.symm ne65))
    obtain ⟨v94, v96, v98, v100, v102, v104, rfl, rs95, rs97, rs99, rs101, rs103, rs105⟩ := Zgz.1 (Rp.mono ((s69.le).trans s90.le) r58)
    refine Zo (vs := [vi e50.op, .string e50.name, v94, v96, v98, vi e50.n, v100, v102, v104, .bool e50.els]) rfl rfl rfl rfl Z0h (Z5 rfl (Z5 rfl (Z5 (RS.one rs95) (Z5 (RS.one rs97) (Z5 (RS.one rs99) (Z5 rfl (Z5 (RS.one rs101) (Z5 (RS.one rs103) (Z5 (RS.one rs105) (Z5 rfl Zx)))))))))) ob93 S92.sub (by simp) (ds := [vi e50.op, .string e50.name, v94, v96, v98, vi e50.n, v100, v102, v104, .bool e50.els]) rfl (fun w106 s107 ob108 => ?_)
    have S109 := S92.trans1 s107 (.inr g66)
    refine Z7 <| Z6 <| Z09 (fun E w158 => ∃ (h157 : Hp), Zhr j23 (Z0u j23) xs1 xs4 x22 e37 e50 = some r ∧ E = [(0, sl b39 o40 (xs1).length c35), (1, sl b52 o53 (xs4).length c48), (5, vi x22), (6, pt b60 0), (7, pt b63 0)] ∧ Stp [] w0 h0 w158 h157 ∧ Hle h68 h157 ∧ OB w158 h157 b60 56 [vi e37.op, .string e37.name, v76, v78, v80, vi e37.n, v82, v84, v86, .bool e37.els] ∧ OB w158 h157 b63 56 [vi e50.op, .string e50.name, v94, v96, v98, vi e50.n, v100, v102, v104, .bool e50.els]) ?_ ?_
    ·rintro E w158 ⟨h157, HF, rfl, S160, le159, ob161, ob162⟩
     refine Z09 (fun E w203 => ∃ (h202 : Hp), ref02_Same_j7 j23 (Z0u j23) xs1 xs4 x22 e37 e50 = some r ∧ E = [(0, sl b39 o40 (xs1).length c35), (1, sl b52 o53 (xs4).length c48), (5, vi x22), (6, pt b60 0), (7, pt b63 0)] ∧ Stp [] w0 h0 w203 h202 ∧ Hle h157 h202 ∧ OB w203 h202 b60 56 [vi e37.op, .string e37.name, v76, v78, v80, vi e37.n, v82, v84, v86, .bool e37.els] ∧ OB w203 h202 b63 56 [vi e50.op, .string e50.name, v94, v96, v98, vi e50.n, v100, v102, v104, .bool e50.els]) ?_ ?_
     ·rintro E w203 ⟨h202, HF, rfl, S205, le204, ob206, ob207⟩
      refine Zb <| Z1 <| Wa rfl rfl <| Z7 <| Z6 <| Z0p <| Z4m <| Z7y [0, 1, 5, 6, 7, 8] [(0, sl b39 o40 (xs1).length c35), (1, sl b52 o53 (xs4).length c48), (5, vi x22), (6, pt b60 0), (7, pt b63 0), (8, vi 0)] rfl <| Z4k (K := j23) (fun j E w209 => ∃ (h208 : Hp) (x212 : Int), (Z0u j).ref02_Same_l8 xs1 xs4 x22 e37 e50 x212 = some r ∧ E = [(0, sl b39 o40 (xs1).length c35), (1, sl b52 o53 (xs4).length c48), (5, vi x22), (6, pt b60 0), (7, pt b63 0), (8, vi x212)] ∧ Stp [] w0 h0 w209 h208 ∧ Hle h202 h208 ∧ OB w209 h208 b60 56 [vi e37.op, .string e37.name, v76, v78, v80, vi e37.n, v82, v84, v86, .bool e37.els] ∧ OB w209 h208 b63 56 [vi e50.op, .string e50.name, v94, v96, v98, vi e50.n, v100, v102, v104, .bool e50.els]) ?_ ?_ (j := j23) (Nat.le_refl _) ?_
      ·rintro E w209 ⟨_, _, HF, _⟩; cases HF
      ·rintro j215 hj217 IHL216 E w209 ⟨h208, x212, HF, rfl, S211, le210, ob213, ob214⟩
       refine Z09 (fun E w223 => ∃ (h222 : Hp), ref02_Same_j9 j215 (Z0u j215) xs1 xs4 x22 e37 e50 x212 = some r ∧ E = [(0, sl b39 o40 (xs1).length c35), (1, sl b52 o53 (xs4).length c48), (5, vi x22), (6, pt b60 0), (7, pt b63 0), (8, vi x212)] ∧ Stp [] w0 h0 w223 h222 ∧ Hle h208 h222 ∧ OB w223 h222 b60 56 [vi e37.op, .string e37.name, v76, v78, v80, vi e37.n, v82, v84, v86, .bool e37.els] ∧ OB w223 h222 b63 56 [vi e50.op, .string e50.name, v94, v96, v98, vi e50.n, v100, v102, v104, .bool e50.els]) ?_ ?_
       ·rintro E w223 ⟨h222, HF, rfl, S225, le224, ob226, ob227⟩
        refine Z09 (fun E w398 => ∃ (h397 : Hp), Zg5 j215 (Z0u j215) xs1 xs4 x22 e37 e50 x212 = some r ∧ E = [(0, sl b39 o40 (xs1).length c35), (1, sl b52 o53 (xs4).length c48), (5, vi x22), (6, pt b60 0), (7, pt b63 0), (8, vi x212)] ∧ Stp [] w0 h0 w398 h397 ∧ Hle h222 h397 ∧ OB w398 h397 b60 56 [vi e37.op, .string e37.name, v76, v78, v80, vi e37.n, v82, v84, v86, .bool e37.els] ∧ OB w398 h397 b63 56 [vi e50.op, .string e50.name, v94, v96, v98, vi e50.n, v100, v102, v104, .bool e50.els]) ?_ ?_
        ·rintro E w398 ⟨h397, HF, rfl, S400, le399, ob401, ob402⟩
         refine Z1 <| Wm rfl rfl <| Wv rfl (Z3n rfl rfl) <| Wa rfl rfl <| Z7 <| Z2c <| Z7y [0, 1, 5, 6, 7, 8] [(0, sl b39 o40 (xs1).length c35), (1, sl b52 o53 (xs4).length c48), (5, vi x22), (6, pt b60 0), (7, pt b63 0), (8, vi (IntKind.i64.wrap (x212 + 1)))] rfl ?_
         exact IHL216 j215 (Nat.le_refl _) _ _ ⟨h397, IntKind.i64.wrap (x212 + 1), HF, rfl, S400, (le210).trans ((le224).trans le399), ob401, ob402⟩
        intro J403
        refine Z0p <| Z09 (fun E w383 => ∃ (h382 : Hp) (x386 : Bool), Zak j215 (Z0u j215) xs1 xs4 x22 e37 e50 x212 x386 = some r ∧ E = [(0, sl b39 o40 (xs1).length c35), (1, sl b52 o53 (xs4).length c48), (5, vi x22), (6, pt b60 0), (7, pt b63 0), (8, vi x212), (153, .bool x386)] ∧ Stp [] w0 h0 w383 h382 ∧ Hle h222 h382 ∧ OB w383 h382 b60 56 [vi e37.op, .string e37.name, v76, v78, v80, vi e37.n, v82, v84, v86, .bool e37.els] ∧ OB w383 h382 b63 56 [vi e50.op, .string e50.name, v94, v96, v98, vi e50.n, v100, v102, v104, .bool e50.els]) ?_ ?_
        ·rintro E w383 ⟨h382, x386, HF, rfl, S385, le384, ob387, ob388⟩
         refine Z17 HF rfl (fun HF => ?_) (fun HF => ?_)
         ·refine Zb <| Z1 <| Wa rfl rfl <| Z7 <| Z6 <| Z00 <| Zy <| Zi <| Zi <| Zy <| Zy <| Zi <| Zi <| Zy <| Zi <| Zt rfl rfl ?_
          obtain rfl := Option.some.inj HF
          exact ⟨_, rfl, h382, S385, rfl⟩
         refine Zm <| Z0a <| Z0g [0, 1, 5, 6, 7, 8] _ rfl ?_
         exact J403 ⟨h382, HF, rfl, S385, le384, ob387, ob388⟩
        intro J390
        obtain ⟨A228, c229, rfl, rs230⟩ := RS.form (rs85.mono ((s90.le).trans ((s107.le).trans ((le159).trans ((le204).trans ((le210).trans le224))))))
        obtain ⟨e231, he232, HF⟩ := Z8 HF
        obtain ⟨b233, o234, rfl, h236, h237, ra235⟩ := RS.atO rs230 he232
        obtain ⟨cs238, r239, hc240⟩ := ra235
        obtain ⟨v241, v243, v245, rfl, rs242, rs244, rs246⟩ := rp_Ar.1 r239
        obtain ⟨A247, c248, rfl, rs249⟩ := RS.form (rs103.mono ((s107.le).trans ((le159).trans ((le204).trans ((le210).trans le224)))))
        obtain ⟨e250, he251, HF⟩ := Z8 HF
        obtain ⟨b252, o253, rfl, h255, h256, ra254⟩ := RS.atO rs249 he251
        obtain ⟨cs257, r258, hc259⟩ := ra254
        obtain ⟨v260, v262, v264, rfl, rs261, rs263, rs265⟩ := rp_Ar.1 r258
        obtain ⟨r266, hr267, HF⟩ := Z8 HF
        refine Z6x (b := !r266) (fun hb268 => ?_) (fun hb268 => ?_)
        ·replace HF := bif_t hb268 HF
         refine Z2x (m := 43) [(0, sl b39 o40 (xs1).length c35), (1, sl b52 o53 (xs4).length c48), (5, vi x22), (6, pt b60 0), (7, pt b63 0), (8, vi x212)] [0, 1, 5, 6, 7, 8] rfl (fun i v w h => match i with | 0 => v = pt b60 7 | 1 => v = sl b233 o234 (e37.arms).length c229 | 2 => v = vi x212 | 3 => v = pt b233 (o234 + Int.toNat x212 * 3) | 4 => v = pt b233 (o234 + Int.toNat x212 * 3) | 5 => v = v241 | 6 => v = pt b63 7 | 7 => v = sl b252 o253 (e50.arms).length c248 | 8 => v = vi x212 | 9 => v = pt b252 (o253 + Int.toNat x212 * 3) | 10 => v = pt b252 (o253 + Int.toNat x212 * 3) | 11 => v = v260 | 12 => v = .bool r266 | 13 => v = .bool (!r266) | 14 => v = .bool true | 15 => v = undef | 16 => v = undef | 17 => v = undef | 18 => v = undef | 19 => v = undef | 20 => v = undef | 21 => v = undef | 22 => v = undef | 23 => v = undef | 24 => v = undef | 25 => v = undef | 26 => v = undef | 27 => v = undef | 28 => v = undef | 29 => v = .bool true | 30 => v = .bool true | 31 => v = undef | 32 => v = undef | 33 => v = undef | 34 => v = undef | 35 => v = undef | 36 => v = undef | 37 => v = undef | 38 => v = undef | 39 => v = undef | 40 => v = undef | 41 => v = undef | 42 => v = undef | _ => True) Z3f S225.sub rfl rfl rfl rfl rfl ?_ ?_ ?_
         ·intro i v w h w2 h2 hΦ hst
          match i, hΦ with
          | 0, hΦ | 1, hΦ | 2, hΦ | 3, hΦ | 4, hΦ | 5, hΦ | 6, hΦ | 7, hΦ | 8, hΦ | 9, hΦ | 10, hΦ | 11, hΦ | 12, hΦ | 13, hΦ | 14, hΦ | 15, hΦ | 16, hΦ | 17, hΦ | 18, hΦ | 19, hΦ | 20, hΦ | 21, hΦ | 22, hΦ | 23, hΦ | 24, hΦ | 25, hΦ | 26, hΦ | 27, hΦ | 28, hΦ | 29, hΦ | 30, hΦ | 31, hΦ | 32, hΦ | 33, hΦ | 34, hΦ | 35, hΦ | 36, hΦ | 37, hΦ | 38, hΦ | 39, hΦ | 40, hΦ | 41, hΦ | 42, hΦ => exact hΦ
          | i + 43, _ => exact trivial
         ·refine ⟨?_, ?_, ?_, ?_, ?_, ?_, ?_, ?_, ?_, ?_, ?_, ?_, ?_, ?_, ?_, ?_, ?_, ?_, ?_, ?_, ?_, ?_, ?_, ?_, ?_, ?_, ?_, ?_, ?_, ?_, ?_, ?_, ?_, ?_, ?_, ?_, ?_, ?_, ?_, ?_, ?_, ?_, ?_, trivial⟩
          ·intro a w269 h270 s271 hat hF
           exact Z3 hat rfl (Z2 rfl Z19) s271.sub (by exact rfl)
          ·intro a w269 h270 s271 hat hF
           have ob272 := (ob226.step0 s271)
           exact Z3 (Z0 hat (hF 0 108 rfl rfl)) rfl (Zc rfl Z4b (OB.cell ob272 (j := 7) rfl)) s271.sub (by exact rfl)
          ·intro a w269 h270 s271 hat hF
           exact Z3 hat rfl (Zu rfl) s271.sub (by exact rfl)
          ·intro a w269 h270 s271 hat hF
           exact Z3 (Z0 (Z0 hat (hF 1 109 rfl rfl)) (hF 2 110 rfl rfl)) rfl (Z07 rfl rfl Z1u Z20 h236 h237) s271.sub (by exact rfl)
          ·intro a w269 h270 s271 hat hF
           exact Z3 (Z0 hat (hF 3 111 rfl rfl)) rfl (Z2 rfl Z40) s271.sub (by exact rfl)
          ·intro a w269 h270 s271 hat hF
           exact Z3 (Z0 hat (hF 4 112 rfl rfl)) rfl (Zc rfl Z2k (s271.sub.at_ _ _ _ ((fun i v hv => (s271.le).1 _ _ _ (hc240 i v hv)) 0 _ rfl))) s271.sub (by exact rfl)
          ·intro a w269 h270 s271 hat hF
           exact Z3 hat rfl (Z2 rfl Z19) s271.sub (by exact rfl)
          ·intro a w269 h270 s271 hat hF
           have ob273 := (ob227.step0 s271)
           exact Z3 (Z0 hat (hF 6 114 rfl rfl)) rfl (Zc rfl Z4b (OB.cell ob273 (j := 7) rfl)) s271.sub (by exact rfl)
          ·intro a w269 h270 s271 hat hF
           exact Z3 hat rfl (Zu rfl) s271.sub (by exact rfl)
          ·intro a w269 h270 s271 hat hF
           exact Z3 (Z0 (Z0 hat (hF 7 115 rfl rfl)) (hF 8 116 rfl rfl)) rfl (Z07 rfl rfl Z1u Z20 h255 h256) s271.sub (by exact rfl)
          ·intro a w269 h270 s271 hat hF
           exact Z3 (Z0 hat (hF 9 117 rfl rfl)) rfl (Z2 rfl Z40) s271.sub (by exact rfl)
          ·intro a w269 h270 s271 hat hF
           exact Z3 (Z0 hat (hF 10 118 rfl rfl)) rfl (Zc rfl Z2k (s271.sub.at_ _ _ _ ((fun i v hv => (s271.le).1 _ _ _ (hc259 i v hv)) 0 _ rfl))) s271.sub (by exact rfl)
          ·intro a w269 h270 s271 hat hF
           refine Z2d (Z0 (Z0 hat (hF 5 113 rfl rfl)) (hF 11 119 rfl rfl)) rfl (Ze (vs := [v241, v260]) rfl t_ent_39) (Z6q _ hr267 s271.sub (rs242.mono (s271.le)) (rs261.mono (s271.le))) ?_
           rintro _ w274 ⟨h275, s276, rfl⟩
           exact ⟨_, h275, rfl, s276, (by exact rfl)⟩
          ·intro a w269 h270 s271 hat hF
           exact Z3 (Z0 hat (hF 12 120 rfl rfl)) rfl (Z3c rfl) s271.sub (by exact rfl)
          ·intro a w269 h270 s271 hat hF
           exact Z3 (Z0 hat (hF 13 121 rfl rfl)) rfl (Zci (Zu rfl) hb268) s271.sub (by exact rfl)
          ·intro a w269 h270 s271 hat hF
           exact Zv (Z0 hat (hF 14 122 rfl rfl)) rfl (by exact rfl)
          ·intro a w269 h270 s271 hat hF
           exact Zv (Z0 (Z0 hat (hF 14 122 rfl rfl)) (hF 15 123 rfl rfl)) rfl (by exact rfl)
          ·intro a w269 h270 s271 hat hF
           exact Zv (Z0 hat (hF 14 122 rfl rfl)) rfl (by exact rfl)
          ·intro a w269 h270 s271 hat hF
           exact Zv (Z0 (Z0 (Z0 hat (hF 14 122 rfl rfl)) (hF 16 124 rfl rfl)) (hF 17 125 rfl rfl)) rfl (by exact rfl)
          ·intro a w269 h270 s271 hat hF
           exact Zv (Z0 (Z0 hat (hF 14 122 rfl rfl)) (hF 18 126 rfl rfl)) rfl (by exact rfl)
          ·intro a w269 h270 s271 hat hF
           exact Zv (Z0 (Z0 hat (hF 14 122 rfl rfl)) (hF 19 127 rfl rfl)) rfl (by exact rfl)
          ·intro a w269 h270 s271 hat hF
           exact Zv (Z0 hat (hF 14 122 rfl rfl)) rfl (by exact rfl)
          ·intro a w269 h270 s271 hat hF
           exact Zv (Z0 (Z0 hat (hF 14 122 rfl rfl)) (hF 21 129 rfl rfl)) rfl (by exact rfl)
          ·intro a w269 h270 s271 hat hF
           exact Zv (Z0 hat (hF 14 122 rfl rfl)) rfl (by exact rfl)
          ·intro a w269 h270 s271 hat hF
           exact Zv (Z0 (Z0 (Z0 hat (hF 14 122 rfl rfl)) (hF 22 130 rfl rfl)) (hF 23 131 rfl rfl)) rfl (by exact rfl)
          ·intro a w269 h270 s271 hat hF
           exact Zv (Z0 (Z0 hat (hF 14 122 rfl rfl)) (hF 24 132 rfl rfl)) rfl (by exact rfl)
          ·intro a w269 h270 s271 hat hF
           exact Zv (Z0 (Z0 hat (hF 14 122 rfl rfl)) (hF 25 133 rfl rfl)) rfl (by exact rfl)
          ·intro a w269 h270 s271 hat hF
           exact Zv (Z0 (Z0 (Z0 hat (hF 14 122 rfl rfl)) (hF 20 128 rfl rfl)) (hF 26 134 rfl rfl)) rfl (by exact rfl)
          ·intro a w269 h270 s271 hat hF
           exact Zv (Z0 (Z0 hat (hF 14 122 rfl rfl)) (hF 27 135 rfl rfl)) rfl (by exact rfl)
          ·intro a w269 h270 s271 hat hF
           exact Z3 (Z0 (Z0 hat (hF 14 122 rfl rfl)) (hF 28 136 rfl rfl)) rfl (Zh rfl rfl) s271.sub (by exact rfl)
          ·intro a w269 h270 s271 hat hF
           exact Z3 (Z0 hat (hF 29 137 rfl rfl)) rfl (Zu rfl) s271.sub (by exact rfl)
          ·intro a w269 h270 s271 hat hF
           exact Zv (Z0 hat (hF 30 138 rfl rfl)) rfl (by exact rfl)
          ·intro a w269 h270 s271 hat hF
           exact Zv (Z0 (Z0 hat (hF 30 138 rfl rfl)) (hF 31 139 rfl rfl)) rfl (by exact rfl)
          ·intro a w269 h270 s271 hat hF
           exact Zv (Z0 hat (hF 30 138 rfl rfl)) rfl (by exact rfl)
          ·intro a w269 h270 s271 hat hF
           exact Zv (Z0 (Z0 (Z0 hat (hF 30 138 rfl rfl)) (hF 32 140 rfl rfl)) (hF 33 141 rfl rfl)) rfl (by exact rfl)
          ·intro a w269 h270 s271 hat hF
           exact Zv (Z0 (Z0 hat (hF 30 138 rfl rfl)) (hF 34 142 rfl rfl)) rfl (by exact rfl)
          ·intro a w269 h270 s271 hat hF
           exact Zv (Z0 (Z0 hat (hF 30 138 rfl rfl)) (hF 35 143 rfl rfl)) rfl (by exact rfl)
          ·intro a w269 h270 s271 hat hF
           exact Zv (Z0 hat (hF 30 138 rfl rfl)) rfl (by exact rfl)
          ·intro a w269 h270 s271 hat hF
           exact Zv (Z0 (Z0 hat (hF 30 138 rfl rfl)) (hF 37 145 rfl rfl)) rfl (by exact rfl)
          ·intro a w269 h270 s271 hat hF
           exact Zv (Z0 hat (hF 30 138 rfl rfl)) rfl (by exact rfl)
          ·intro a w269 h270 s271 hat hF
           exact Zv (Z0 (Z0 (Z0 hat (hF 30 138 rfl rfl)) (hF 38 146 rfl rfl)) (hF 39 147 rfl rfl)) rfl (by exact rfl)
          ·intro a w269 h270 s271 hat hF
           exact Zv (Z0 (Z0 hat (hF 30 138 rfl rfl)) (hF 40 148 rfl rfl)) rfl (by exact rfl)
          intro a w269 h270 s271 hat hF
          exact Zv (Z0 (Z0 hat (hF 30 138 rfl rfl)) (hF 41 149 rfl rfl)) rfl (by exact rfl)
         intro a w269 h270 s271 hat hF
         obtain hv0 := hF 0 108 (by decide) rfl
         obtain hv1 := hF 1 109 (by decide) rfl
         obtain hv2 := hF 2 110 (by decide) rfl
         obtain hv3 := hF 3 111 (by decide) rfl
         obtain hv4 := hF 4 112 (by decide) rfl
         obtain hv5 := hF 5 113 (by decide) rfl
         obtain hv6 := hF 6 114 (by decide) rfl
         obtain hv7 := hF 7 115 (by decide) rfl
         obtain hv8 := hF 8 116 (by decide) rfl
         obtain hv9 := hF 9 117 (by decide) rfl
         obtain hv10 := hF 10 118 (by decide) rfl
         obtain hv11 := hF 11 119 (by decide) rfl
         obtain hv12 := hF 12 120 (by decide) rfl
         obtain hv13 := hF 13 121 (by decide) rfl
         obtain hv14 := hF 14 122 (by decide) rfl
         obtain hv15 := hF 15 123 (by decide) rfl
         obtain hv16 := hF 16 124 (by decide) rfl
         obtain hv17 := hF 17 125 (by decide) rfl
         obtain hv18 := hF 18 126 (by decide) rfl
         obtain hv19 := hF 19 127 (by decide) rfl
         obtain hv20 := hF 20 128 (by decide) rfl
         obtain hv21 := hF 21 129 (by decide) rfl
         obtain hv22 := hF 22 130 (by decide) rfl
         obtain hv23 := hF 23 131 (by decide) rfl
         obtain hv24 := hF 24 132 (by decide) rfl
         obtain hv25 := hF 25 133 (by decide) rfl
         obtain hv26 := hF 26 134 (by decide) rfl
         obtain hv27 := hF 27 135 (by decide) rfl
         obtain hv28 := hF 28 136 (by decide) rfl
         obtain hv29 := hF 29 137 (by decide) rfl
         obtain hv30 := hF 30 138 (by decide) rfl
         obtain hv31 := hF 31 139 (by decide) rfl
         obtain hv32 := hF 32 140 (by decide) rfl
         obtain hv33 := hF 33 141 (by decide) rfl
         obtain hv34 := hF 34 142 (by decide) rfl
         obtain hv35 := hF 35 143 (by decide) rfl
         obtain hv36 := hF 36 144 (by decide) rfl
         obtain hv37 := hF 37 145 (by decide) rfl
         obtain hv38 := hF 38 146 (by decide) rfl
         obtain hv39 := hF 39 147 (by decide) rfl
         obtain hv40 := hF 40 148 (by decide) rfl
         obtain hv41 := hF 41 149 (by decide) rfl
         obtain hv42 := hF 42 150 (by decide) rfl
         refine Z7z [(150, undef), (149, undef), (148, undef), (147, undef), (146, undef), (145, undef), (144, undef), (143, undef), (142, undef), (141, undef), (140, undef), (139, undef), (138, .bool true), (137, .bool true), (136, undef), (135, undef), (134, undef), (133, undef), (132, undef), (131, undef), (130, undef), (129, undef), (128, undef), (127, undef), (126, undef), (125, undef), (124, undef), (123, undef), (122, .bool true), (121, .bool (!r266)), (120, .bool r266), (119, v260), (118, pt b252 (o253 + Int.toNat x212 * 3)), (117, pt b252 (o253 + Int.toNat x212 * 3)), (116, vi x212), (115, sl b252 o253 (e50.arms).length c248), (114, pt b63 7), (113, v241), (112, pt b233 (o234 + Int.toNat x212 * 3)), (111, pt b233 (o234 + Int.toNat x212 * 3)), (110, vi x212), (109, sl b233 o234 (e37.arms).length c229), (108, pt b60 7), (0, sl b39 o40 (xs1).length c35), (1, sl b52 o53 (xs4).length c48), (5, vi x22), (6, pt b60 0), (7, pt b63 0), (8, vi x212)] (Z0 (Z0 (Z0 (Z0 (Z0 (Z0 (Z0 (Z0 (Z0 (Z0 (Z0 (Z0 (Z0 (Z0 (Z0 (Z0 (Z0 (Z0 (Z0 (Z0 (Z0 (Z0 (Z0 (Z0 (Z0 (Z0 (Z0 (Z0 (Z0 (Z0 (Z0 (Z0 (Z0 (Z0 (Z0 (Z0 (Z0 (Z0 (Z0 (Z0 (Z0 (Z0 (Z0 hat hv0) hv1) hv2) hv3) hv4) hv5) hv6) hv7) hv8) hv9) hv10) hv11) hv12) hv13) hv14) hv15) hv16) hv17) hv18) hv19) hv20) hv21) hv22) hv23) hv24) hv25) hv26) hv27) hv28) hv29) hv30) hv31) hv32) hv33) hv34) hv35) hv36) hv37) hv38) hv39) hv40) hv41) hv42) ?_
         have S277 := S225.trans0 s271
         refine Wp rfl <| Wp rfl <| Wv rfl (Zh rfl rfl) <| Z7 ?_
         have ob391 := (ob226.step0 s271)
         have ob392 := (ob227.step0 s271)
         refine Z0g [0, 1, 5, 6, 7, 8, 153] _ rfl ?_
         exact J390 ⟨h270, true, HF, rfl, S277, s271.le, ob391, ob392⟩
        replace HF := bif_f hb268 HF
        obtain ⟨e278, he279, HF⟩ := Z8 HF
        obtain ⟨b280, o281, hA, h283, h284, ra282⟩ := RS.atO rs230 he279
        obtain ⟨rfl, rfl⟩ := Za2 hA
        obtain ⟨cs285, r286, hc287⟩ := ra282
        obtain ⟨v288, v290, v292, rfl, rs289, rs291, rs293⟩ := rp_Ar.1 r286
        obtain ⟨e294, he295, HF⟩ := Z8 HF
        obtain ⟨b296, o297, hA, h299, h300, ra298⟩ := RS.atO rs249 he295
        obtain ⟨rfl, rfl⟩ := Za2 hA
        obtain ⟨cs301, r302, hc303⟩ := ra298
        obtain ⟨v304, v306, v308, rfl, rs305, rs307, rs309⟩ := rp_Ar.1 r302
        obtain ⟨r310, hr311, HF⟩ := Z8 HF
        refine Z6x (b := !r310) (fun hb312 => ?_) (fun hb312 => ?_)
        ·replace HF := bif_t hb312 HF
         refine Z2x (m := 43) [(0, sl b39 o40 (xs1).length c35), (1, sl b52 o53 (xs4).length c48), (5, vi x22), (6, pt b60 0), (7, pt b63 0), (8, vi x212)] [0, 1, 5, 6, 7, 8] rfl (fun i v w h => match i with | 0 => v = pt b60 7 | 1 => v = sl b233 o234 (e37.arms).length c229 | 2 => v = vi x212 | 3 => v = pt b233 (o234 + Int.toNat x212 * 3) | 4 => v = pt b233 (o234 + Int.toNat x212 * 3) | 5 => v = v241 | 6 => v = pt b63 7 | 7 => v = sl b252 o253 (e50.arms).length c248 | 8 => v = vi x212 | 9 => v = pt b252 (o253 + Int.toNat x212 * 3) | 10 => v = pt b252 (o253 + Int.toNat x212 * 3) | 11 => v = v260 | 12 => v = .bool r266 | 13 => v = .bool (!r266) | 14 => v = .bool false | 15 => v = pt b60 7 | 16 => v = sl b233 o234 (e37.arms).length c229 | 17 => v = vi x212 | 18 => v = pt b233 (o234 + Int.toNat x212 * 3) | 19 => v = pt b233 (o234 + Int.toNat x212 * 3 + 1) | 20 => v = v290 | 21 => v = pt b63 7 | 22 => v = sl b252 o253 (e50.arms).length c248 | 23 => v = vi x212 | 24 => v = pt b252 (o253 + Int.toNat x212 * 3) | 25 => v = pt b252 (o253 + Int.toNat x212 * 3 + 1) | 26 => v = v306 | 27 => v = .bool r310 | 28 => v = .bool (!r310) | 29 => v = .bool (!r310) | 30 => v = .bool true | 31 => v = undef | 32 => v = undef | 33 => v = undef | 34 => v = undef | 35 => v = undef | 36 => v = undef | 37 => v = undef | 38 => v = undef | 39 => v = undef | 40 => v = undef | 41 => v = undef | 42 => v = undef | _ => True) Z3f S225.sub rfl rfl rfl rfl rfl ?_ ?_ ?_
         ·intro i v w h w2 h2 hΦ hst
          match i, hΦ with
          | 0, hΦ | 1, hΦ | 2, hΦ | 3, hΦ | 4, hΦ | 5, hΦ | 6, hΦ | 7, hΦ | 8, hΦ | 9, hΦ | 10, hΦ | 11, hΦ | 12, hΦ | 13, hΦ | 14, hΦ | 15, hΦ | 16, hΦ | 17, hΦ | 18, hΦ | 19, hΦ | 20, hΦ | 21, hΦ | 22, hΦ | 23, hΦ | 24, hΦ | 25, hΦ | 26, hΦ | 27, hΦ | 28, hΦ | 29, hΦ | 30, hΦ | 31, hΦ | 32, hΦ | 33, hΦ | 34, hΦ | 35, hΦ | 36, hΦ | 37, hΦ | 38, hΦ | 39, hΦ | 40, hΦ | 41, hΦ | 42, hΦ => exact hΦ
          | i + 43, _ => exact trivial
         ·refine ⟨?_, ?_, ?_, ?_, ?_, ?_, ?_, ?_, ?_, ?_, ?_, ?_, ?_, ?_, ?_, ?_, ?_, ?_, ?_, ?_, ?_, ?_, ?_, ?_, ?_, ?_, ?_, ?_, ?_, ?_, ?_, ?_, ?_, ?_, ?_, ?_, ?_, ?_, ?_, ?_, ?_, ?_, ?_, trivial⟩
          ·intro a w313 h314 s315 hat hF
           exact Z3 hat rfl (Z2 rfl Z19) s315.sub (by exact rfl)
          ·intro a w313 h314 s315 hat hF
           have ob316 := (ob226.step0 s315)
           exact Z3 (Z0 hat (hF 0 108 rfl rfl)) rfl (Zc rfl Z4b (OB.cell ob316 (j := 7) rfl)) s315.sub (by exact rfl)
          ·intro a w313 h314 s315 hat hF
           exact Z3 hat rfl (Zu rfl) s315.sub (by exact rfl)
          ·intro a w313 h314 s315 hat hF
           exact Z3 (Z0 (Z0 hat (hF 1 109 rfl rfl)) (hF 2 110 rfl rfl)) rfl (Z07 rfl rfl Z1u Z20 h236 h237) s315.sub (by exact rfl)
          ·intro a w313 h314 s315 hat hF
           exact Z3 (Z0 hat (hF 3 111 rfl rfl)) rfl (Z2 rfl Z40) s315.sub (by exact rfl)
          ·intro a w313 h314 s315 hat hF
           exact Z3 (Z0 hat (hF 4 112 rfl rfl)) rfl (Zc rfl Z2k (s315.sub.at_ _ _ _ ((fun i v hv => (s315.le).1 _ _ _ (hc240 i v hv)) 0 _ rfl))) s315.sub (by exact rfl)
          ·intro a w313 h314 s315 hat hF
           exact Z3 hat rfl (Z2 rfl Z19) s315.sub (by exact rfl)
          ·intro a w313 h314 s315 hat hF
           have ob317 := (ob227.step0 s315)
           exact Z3 (Z0 hat (hF 6 114 rfl rfl)) rfl (Zc rfl Z4b (OB.cell ob317 (j := 7) rfl)) s315.sub (by exact rfl)
          ·intro a w313 h314 s315 hat hF
           exact Z3 hat rfl (Zu rfl) s315.sub (by exact rfl)
          ·intro a w313 h314 s315 hat hF
           exact Z3 (Z0 (Z0 hat (hF 7 115 rfl rfl)) (hF 8 116 rfl rfl)) rfl (Z07 rfl rfl Z1u Z20 h255 h256) s315.sub (by exact rfl)
          ·intro a w313 h314 s315 hat hF
           exact Z3 (Z0 hat (hF 9 117 rfl rfl)) rfl (Z2 rfl Z40) s315.sub (by exact rfl)
          ·intro a w313 h314 s315 hat hF
           exact Z3 (Z0 hat (hF 10 118 rfl rfl)) rfl (Zc rfl Z2k (s315.sub.at_ _ _ _ ((fun i v hv => (s315.le).1 _ _ _ (hc259 i v hv)) 0 _ rfl))) s315.sub (by exact rfl)
          ·intro a w313 h314 s315 hat hF
           refine Z2d (Z0 (Z0 hat (hF 5 113 rfl rfl)) (hF 11 119 rfl rfl)) rfl (Ze (vs := [v241, v260]) rfl t_ent_39) (Z6q _ hr267 s315.sub (rs242.mono (s315.le)) (rs261.mono (s315.le))) ?_
           rintro _ w318 ⟨h319, s320, rfl⟩
           exact ⟨_, h319, rfl, s320, (by exact rfl)⟩
          ·intro a w313 h314 s315 hat hF
           exact Z3 (Z0 hat (hF 12 120 rfl rfl)) rfl (Z3c rfl) s315.sub (by exact rfl)
          ·intro a w313 h314 s315 hat hF
           exact Z3 (Z0 hat (hF 13 121 rfl rfl)) rfl (Zci (Zu rfl) hb268) s315.sub (by exact rfl)
          ·intro a w313 h314 s315 hat hF
           exact Z3 (Z0 hat (hF 14 122 rfl rfl)) rfl (Z2 rfl Z19) s315.sub (by exact rfl)
          ·intro a w313 h314 s315 hat hF
           have ob321 := (ob226.step0 s315)
           exact Z3 (Z0 (Z0 hat (hF 14 122 rfl rfl)) (hF 15 123 rfl rfl)) rfl (Zc rfl Z4b (OB.cell ob321 (j := 7) rfl)) s315.sub (by exact rfl)
          ·intro a w313 h314 s315 hat hF
           exact Z3 (Z0 hat (hF 14 122 rfl rfl)) rfl (Zu rfl) s315.sub (by exact rfl)
          ·intro a w313 h314 s315 hat hF
           exact Z3 (Z0 (Z0 (Z0 hat (hF 14 122 rfl rfl)) (hF 16 124 rfl rfl)) (hF 17 125 rfl rfl)) rfl (Z07 rfl rfl Z1u Z20 h283 h284) s315.sub (by exact rfl)
          ·intro a w313 h314 s315 hat hF
           exact Z3 (Z0 (Z0 hat (hF 14 122 rfl rfl)) (hF 18 126 rfl rfl)) rfl (Z2 rfl Z42) s315.sub (by exact rfl)
          ·intro a w313 h314 s315 hat hF
           exact Z3 (Z0 (Z0 hat (hF 14 122 rfl rfl)) (hF 19 127 rfl rfl)) rfl (Zc rfl Zc4 (s315.sub.at_ _ _ _ ((fun i v hv => (s315.le).1 _ _ _ (hc287 i v hv)) 1 _ rfl))) s315.sub (by exact rfl)
          ·intro a w313 h314 s315 hat hF
           exact Z3 (Z0 hat (hF 14 122 rfl rfl)) rfl (Z2 rfl Z19) s315.sub (by exact rfl)
          ·intro a w313 h314 s315 hat hF
           have ob322 := (ob227.step0 s315)
           exact Z3 (Z0 (Z0 hat (hF 14 122 rfl rfl)) (hF 21 129 rfl rfl)) rfl (Zc rfl Z4b (OB.cell ob322 (j := 7) rfl)) s315.sub (by exact rfl)
          ·intro a w313 h314 s315 hat hF
           exact Z3 (Z0 hat (hF 14 122 rfl rfl)) rfl (Zu rfl) s315.sub (by exact rfl)
          ·intro a w313 h314 s315 hat hF
           exact Z3 (Z0 (Z0 (Z0 hat (hF 14 122 rfl rfl)) (hF 22 130 rfl rfl)) (hF 23 131 rfl rfl)) rfl (Z07 rfl rfl Z1u Z20 h299 h300) s315.sub (by exact rfl)
          ·intro a w313 h314 s315 hat hF
           exact Z3 (Z0 (Z0 hat (hF 14 122 rfl rfl)) (hF 24 132 rfl rfl)) rfl (Z2 rfl Z42) s315.sub (by exact rfl)
          ·intro a w313 h314 s315 hat hF
           exact Z3 (Z0 (Z0 hat (hF 14 122 rfl rfl)) (hF 25 133 rfl rfl)) rfl (Zc rfl Zc4 (s315.sub.at_ _ _ _ ((fun i v hv => (s315.le).1 _ _ _ (hc303 i v hv)) 1 _ rfl))) s315.sub (by exact rfl)
          ·intro a w313 h314 s315 hat hF
           refine Z2d (Z0 (Z0 (Z0 hat (hF 14 122 rfl rfl)) (hF 20 128 rfl rfl)) (hF 26 134 rfl rfl)) rfl (Ze (vs := [v290, v306]) rfl t_ent_40) (Zh5 _ hr311 s315.sub (rs291.mono (s315.le)) (rs307.mono (s315.le))) ?_
           rintro _ w323 ⟨h324, s325, rfl⟩
           exact ⟨_, h324, rfl, s325, (by exact rfl)⟩
          ·intro a w313 h314 s315 hat hF
           exact Z3 (Z0 (Z0 hat (hF 14 122 rfl rfl)) (hF 27 135 rfl rfl)) rfl (Z3c rfl) s315.sub (by exact rfl)
          ·intro a w313 h314 s315 hat hF
           exact Z3 (Z0 (Z0 hat (hF 14 122 rfl rfl)) (hF 28 136 rfl rfl)) rfl (Zg rfl rfl) s315.sub (by exact rfl)
          ·intro a w313 h314 s315 hat hF
           exact Z3 (Z0 hat (hF 29 137 rfl rfl)) rfl (Zci (Zu rfl) hb312) s315.sub (by exact rfl)
          ·intro a w313 h314 s315 hat hF
           exact Zv (Z0 hat (hF 30 138 rfl rfl)) rfl (by exact rfl)
          ·intro a w313 h314 s315 hat hF
           exact Zv (Z0 (Z0 hat (hF 30 138 rfl rfl)) (hF 31 139 rfl rfl)) rfl (by exact rfl)
          ·intro a w313 h314 s315 hat hF
           exact Zv (Z0 hat (hF 30 138 rfl rfl)) rfl (by exact rfl)
          ·intro a w313 h314 s315 hat hF
           exact Zv (Z0 (Z0 (Z0 hat (hF 30 138 rfl rfl)) (hF 32 140 rfl rfl)) (hF 33 141 rfl rfl)) rfl (by exact rfl)
          ·intro a w313 h314 s315 hat hF
           exact Zv (Z0 (Z0 hat (hF 30 138 rfl rfl)) (hF 34 142 rfl rfl)) rfl (by exact rfl)
          ·intro a w313 h314 s315 hat hF
           exact Zv (Z0 (Z0 hat (hF 30 138 rfl rfl)) (hF 35 143 rfl rfl)) rfl (by exact rfl)
          ·intro a w313 h314 s315 hat hF
           exact Zv (Z0 hat (hF 30 138 rfl rfl)) rfl (by exact rfl)
          ·intro a w313 h314 s315 hat hF
           exact Zv (Z0 (Z0 hat (hF 30 138 rfl rfl)) (hF 37 145 rfl rfl)) rfl (by exact rfl)
          ·intro a w313 h314 s315 hat hF
           exact Zv (Z0 hat (hF 30 138 rfl rfl)) rfl (by exact rfl)
          ·intro a w313 h314 s315 hat hF
           exact Zv (Z0 (Z0 (Z0 hat (hF 30 138 rfl rfl)) (hF 38 146 rfl rfl)) (hF 39 147 rfl rfl)) rfl (by exact rfl)
          ·intro a w313 h314 s315 hat hF
           exact Zv (Z0 (Z0 hat (hF 30 138 rfl rfl)) (hF 40 148 rfl rfl)) rfl (by exact rfl)
          intro a w313 h314 s315 hat hF
          exact Zv (Z0 (Z0 hat (hF 30 138 rfl rfl)) (hF 41 149 rfl rfl)) rfl (by exact rfl)
         intro a w313 h314 s315 hat hF
         obtain hv0 := hF 0 108 (by decide) rfl
         obtain hv1 := hF 1 109 (by decide) rfl
         obtain hv2 := hF 2 110 (by decide) rfl
         obtain hv3 := hF 3 111 (by decide) rfl
         obtain hv4 := hF 4 112 (by decide) rfl
         obtain hv5 := hF 5 113 (by decide) rfl
         obtain hv6 := hF 6 114 (by decide) rfl
         obtain hv7 := hF 7 115 (by decide) rfl
         obtain hv8 := hF 8 116 (by decide) rfl
         obtain hv9 := hF 9 117 (by decide) rfl
         obtain hv10 := hF 10 118 (by decide) rfl
         obtain hv11 := hF 11 119 (by decide) rfl
         obtain hv12 := hF 12 120 (by decide) rfl
         obtain hv13 := hF 13 121 (by decide) rfl
         obtain hv14 := hF 14 122 (by decide) rfl
         obtain hv15 := hF 15 123 (by decide) rfl
         obtain hv16 := hF 16 124 (by decide) rfl
         obtain hv17 := hF 17 125 (by decide) rfl
         obtain hv18 := hF 18 126 (by decide) rfl
         obtain hv19 := hF 19 127 (by decide) rfl
         obtain hv20 := hF 20 128 (by decide) rfl
         obtain hv21 := hF 21 129 (by decide) rfl
         obtain hv22 := hF 22 130 (by decide) rfl
         obtain hv23 := hF 23 131 (by decide) rfl
         obtain hv24 := hF 24 132 (by decide) rfl
         obtain hv25 := hF 25 133 (by decide) rfl
         obtain hv26 := hF 26 134 (by decide) rfl
         obtain hv27 := hF 27 135 (by decide) rfl
         obtain hv28 := hF 28 136 (by decide) rfl
         obtain hv29 := hF 29 137 (by decide) rfl
         obtain hv30 := hF 30 138 (by decide) rfl
         obtain hv31 := hF 31 139 (by decide) rfl
         obtain hv32 := hF 32 140 (by decide) rfl
         obtain hv33 := hF 33 141 (by decide) rfl
         obtain hv34 := hF 34 142 (by decide) rfl
         obtain hv35 := hF 35 143 (by decide) rfl
         obtain hv36 := hF 36 144 (by decide) rfl
         obtain hv37 := hF 37 145 (by decide) rfl
         obtain hv38 := hF 38 146 (by decide) rfl
         obtain hv39 := hF 39 147 (by decide) rfl
         obtain hv40 := hF 40 148 (by decide) rfl
         obtain hv41 := hF 41 149 (by decide) rfl
         obtain hv42 := hF 42 150 (by decide) rfl
         refine Z7z [(150, undef), (149, undef), (148, undef), (147, undef), (146, undef), (145, undef), (144, undef), (143, undef), (142, undef), (141, undef), (140, undef), (139, undef), (138, .bool true), (137, .bool (!r310)), (136, .bool (!r310)), (135, .bool r310), (134, v306), (133, pt b252 (o253 + Int.toNat x212 * 3 + 1)), (132, pt b252 (o253 + Int.toNat x212 * 3)), (131, vi x212), (130, sl b252 o253 (e50.arms).length c248), (129, pt b63 7), (128, v290), (127, pt b233 (o234 + Int.toNat x212 * 3 + 1)), (126, pt b233 (o234 + Int.toNat x212 * 3)), (125, vi x212), (124, sl b233 o234 (e37.arms).length c229), (123, pt b60 7), (122, .bool false), (121, .bool (!r266)), (120, .bool r266), (119, v260), (118, pt b252 (o253 + Int.toNat x212 * 3)), (117, pt b252 (o253 + Int.toNat x212 * 3)), (116, vi x212), (115, sl b252 o253 (e50.arms).length c248), (114, pt b63 7), (113, v241), (112, pt b233 (o234 + Int.toNat x212 * 3)), (111, pt b233 (o234 + Int.toNat x212 * 3)), (110, vi x212), (109, sl b233 o234 (e37.arms).length c229), (108, pt b60 7), (0, sl b39 o40 (xs1).length c35), (1, sl b52 o53 (xs4).length c48), (5, vi x22), (6, pt b60 0), (7, pt b63 0), (8, vi x212)] (Z0 (Z0 (Z0 (Z0 (Z0 (Z0 (Z0 (Z0 (Z0 (Z0 (Z0 (Z0 (Z0 (Z0 (Z0 (Z0 (Z0 (Z0 (Z0 (Z0 (Z0 (Z0 (Z0 (Z0 (Z0 (Z0 (Z0 (Z0 (Z0 (Z0 (Z0 (Z0 (Z0 (Z0 (Z0 (Z0 (Z0 (Z0 (Z0 (Z0 (Z0 (Z0 (Z0 hat hv0) hv1) hv2) hv3) hv4) hv5) hv6) hv7) hv8) hv9) hv10) hv11) hv12) hv13) hv14) hv15) hv16) hv17) hv18) hv19) hv20) hv21) hv22) hv23) hv24) hv25) hv26) hv27) hv28) hv29) hv30) hv31) hv32) hv33) hv34) hv35) hv36) hv37) hv38) hv39) hv40) hv41) hv42) ?_
         have S326 := S225.trans0 s315
         refine Wp rfl <| Wp rfl <| Wv rfl (Zh rfl rfl) <| Z7 ?_
         have ob393 := (ob226.step0 s315)
         have ob394 := (ob227.step0 s315)
         refine Z0g [0, 1, 5, 6, 7, 8, 153] _ rfl ?_
         exact J390 ⟨h314, true, HF, rfl, S326, s315.le, ob393, ob394⟩
        replace HF := bif_f hb312 HF
        obtain ⟨e327, he328, HF⟩ := Z8 HF
        obtain ⟨b329, o330, hA, h332, h333, ra331⟩ := RS.atO rs230 he328
        obtain ⟨rfl, rfl⟩ := Za2 hA
        obtain ⟨cs334, r335, hc336⟩ := ra331
        obtain ⟨v337, v339, v341, rfl, rs338, rs340, rs342⟩ := rp_Ar.1 r335
        obtain ⟨e343, he344, HF⟩ := Z8 HF
        obtain ⟨b345, o346, hA, h348, h349, ra347⟩ := RS.atO rs249 he344
        obtain ⟨rfl, rfl⟩ := Za2 hA
        obtain ⟨cs350, r351, hc352⟩ := ra347
        obtain ⟨v353, v355, v357, rfl, rs354, rs356, rs358⟩ := rp_Ar.1 r351
        refine Z2x (m := 43) [(0, sl b39 o40 (xs1).length c35), (1, sl b52 o53 (xs4).length c48), (5, vi x22), (6, pt b60 0), (7, pt b63 0), (8, vi x212)] [0, 1, 5, 6, 7, 8] rfl (fun i v w h => match i with | 0 => v = pt b60 7 | 1 => v = sl b233 o234 (e37.arms).length c229 | 2 => v = vi x212 | 3 => v = pt b233 (o234 + Int.toNat x212 * 3) | 4 => v = pt b233 (o234 + Int.toNat x212 * 3) | 5 => v = v241 | 6 => v = pt b63 7 | 7 => v = sl b252 o253 (e50.arms).length c248 | 8 => v = vi x212 | 9 => v = pt b252 (o253 + Int.toNat x212 * 3) | 10 => v = pt b252 (o253 + Int.toNat x212 * 3) | 11 => v = v260 | 12 => v = .bool r266 | 13 => v = .bool (!r266) | 14 => v = .bool false | 15 => v = pt b60 7 | 16 => v = sl b233 o234 (e37.arms).length c229 | 17 => v = vi x212 | 18 => v = pt b233 (o234 + Int.toNat x212 * 3) | 19 => v = pt b233 (o234 + Int.toNat x212 * 3 + 1) | 20 => v = v290 | 21 => v = pt b63 7 | 22 => v = sl b252 o253 (e50.arms).length c248 | 23 => v = vi x212 | 24 => v = pt b252 (o253 + Int.toNat x212 * 3) | 25 => v = pt b252 (o253 + Int.toNat x212 * 3 + 1) | 26 => v = v306 | 27 => v = .bool r310 | 28 => v = .bool (!r310) | 29 => v = .bool (!r310) | 30 => v = .bool false | 31 => v = pt b60 7 | 32 => v = sl b233 o234 (e37.arms).length c229 | 33 => v = vi x212 | 34 => v = pt b233 (o234 + Int.toNat x212 * 3) | 35 => v = pt b233 (o234 + Int.toNat x212 * 3 + 2) | 36 => v = v341 | 37 => v = pt b63 7 | 38 => v = sl b252 o253 (e50.arms).length c248 | 39 => v = vi x212 | 40 => v = pt b252 (o253 + Int.toNat x212 * 3) | 41 => v = pt b252 (o253 + Int.toNat x212 * 3 + 2) | 42 => v = v357 | _ => True) Z3f S225.sub rfl rfl rfl rfl rfl ?_ ?_ ?_
        ·intro i v w h w2 h2 hΦ hst
         match i, hΦ with
         | 0, hΦ | 1, hΦ | 2, hΦ | 3, hΦ | 4, hΦ | 5, hΦ | 6, hΦ | 7, hΦ | 8, hΦ | 9, hΦ | 10, hΦ | 11, hΦ | 12, hΦ | 13, hΦ | 14, hΦ | 15, hΦ | 16, hΦ | 17, hΦ | 18, hΦ | 19, hΦ | 20, hΦ | 21, hΦ | 22, hΦ | 23, hΦ | 24, hΦ | 25, hΦ | 26, hΦ | 27, hΦ | 28, hΦ | 29, hΦ | 30, hΦ | 31, hΦ | 32, hΦ | 33, hΦ | 34, hΦ | 35, hΦ | 36, hΦ | 37, hΦ | 38, hΦ | 39, hΦ | 40, hΦ | 41, hΦ | 42, hΦ => exact hΦ
         | i + 43, _ => exact trivial
        ·refine ⟨?_, ?_, ?_, ?_, ?_, ?_, ?_, ?_, ?_, ?_, ?_, ?_, ?_, ?_, ?_, ?_, ?_, ?_, ?_, ?_, ?_, ?_, ?_, ?_, ?_, ?_, ?_, ?_, ?_, ?_, ?_, ?_, ?_, ?_, ?_, ?_, ?_, ?_, ?_, ?_, ?_, ?_, ?_, trivial⟩
         ·intro a w359 h360 s361 hat hF
          exact Z3 hat rfl (Z2 rfl Z19) s361.sub (by exact rfl)
         ·intro a w359 h360 s361 hat hF
          have ob362 := (ob226.step0 s361)
          exact Z3 (Z0 hat (hF 0 108 rfl rfl)) rfl (Zc rfl Z4b (OB.cell ob362 (j := 7) rfl)) s361.sub (by exact rfl)
         ·intro a w359 h360 s361 hat hF
          exact Z3 hat rfl (Zu rfl) s361.sub (by exact rfl)
         ·intro a w359 h360 s361 hat hF
          exact Z3 (Z0 (Z0 hat (hF 1 109 rfl rfl)) (hF 2 110 rfl rfl)) rfl (Z07 rfl rfl Z1u Z20 h236 h237) s361.sub (by exact rfl)
         ·intro a w359 h360 s361 hat hF
          exact Z3 (Z0 hat (hF 3 111 rfl rfl)) rfl (Z2 rfl Z40) s361.sub (by exact rfl)
         ·intro a w359 h360 s361 hat hF
          exact Z3 (Z0 hat (hF 4 112 rfl rfl)) rfl (Zc rfl Z2k (s361.sub.at_ _ _ _ ((fun i v hv => (s361.le).1 _ _ _ (hc240 i v hv)) 0 _ rfl))) s361.sub (by exact rfl)
         ·intro a w359 h360 s361 hat hF
          exact Z3 hat rfl (Z2 rfl Z19) s361.sub (by exact rfl)
         ·intro a w359 h360 s361 hat hF
          have ob363 := (ob227.step0 s361)
          exact Z3 (Z0 hat (hF 6 114 rfl rfl)) rfl (Zc rfl Z4b (OB.cell ob363 (j := 7) rfl)) s361.sub (by exact rfl)
         ·intro a w359 h360 s361 hat hF
          exact Z3 hat rfl (Zu rfl) s361.sub (by exact rfl)
         ·intro a w359 h360 s361 hat hF
          exact Z3 (Z0 (Z0 hat (hF 7 115 rfl rfl)) (hF 8 116 rfl rfl)) rfl (Z07 rfl rfl Z1u Z20 h255 h256) s361.sub (by exact rfl)
         ·intro a w359 h360 s361 hat hF
          exact Z3 (Z0 hat (hF 9 117 rfl rfl)) rfl (Z2 rfl Z40) s361.sub (by exact rfl)
         ·intro a w359 h360 s361 hat hF
          exact Z3 (Z0 hat (hF 10 118 rfl rfl)) rfl (Zc rfl Z2k (s361.sub.at_ _ _ _ ((fun i v hv => (s361.le).1 _ _ _ (hc259 i v hv)) 0 _ rfl))) s361.sub (by exact rfl)
         ·intro a w359 h360 s361 hat hF
          refine Z2d (Z0 (Z0 hat (hF 5 113 rfl rfl)) (hF 11 119 rfl rfl)) rfl (Ze (vs := [v241, v260]) rfl t_ent_39) (Z6q _ hr267 s361.sub (rs242.mono (s361.le)) (rs261.mono (s361.le))) ?_
          rintro _ w364 ⟨h365, s366, rfl⟩
          exact ⟨_, h365, rfl, s366, (by exact rfl)⟩
         ·intro a w359 h360 s361 hat hF
          exact Z3 (Z0 hat (hF 12 120 rfl rfl)) rfl (Z3c rfl) s361.sub (by exact rfl)
         ·intro a w359 h360 s361 hat hF
          exact Z3 (Z0 hat (hF 13 121 rfl rfl)) rfl (Zci (Zu rfl) hb268) s361.sub (by exact rfl)
         ·intro a w359 h360 s361 hat hF
          exact Z3 (Z0 hat (hF 14 122 rfl rfl)) rfl (Z2 rfl Z19) s361.sub (by exact rfl)
         ·intro a w359 h360 s361 hat hF
          have ob367 := (ob226.step0 s361)
          exact Z3 (Z0 (Z0 hat (hF 14 122 rfl rfl)) (hF 15 123 rfl rfl)) rfl (Zc rfl Z4b (OB.cell ob367 (j := 7) rfl)) s361.sub (by exact rfl)
         ·intro a w359 h360 s361 hat hF
          exact Z3 (Z0 hat (hF 14 122 rfl rfl)) rfl (Zu rfl) s361.sub (by exact rfl)
         ·intro a w359 h360 s361 hat hF
          exact Z3 (Z0 (Z0 (Z0 hat (hF 14 122 rfl rfl)) (hF 16 124 rfl rfl)) (hF 17 125 rfl rfl)) rfl (Z07 rfl rfl Z1u Z20 h283 h284) s361.sub (by exact rfl)
         ·intro a w359 h360 s361 hat hF
          exact Z3 (Z0 (Z0 hat (hF 14 122 rfl rfl)) (hF 18 126 rfl rfl)) rfl (Z2 rfl Z42) s361.sub (by exact rfl)
         ·intro a w359 h360 s361 hat hF
          exact Z3 (Z0 (Z0 hat (hF 14 122 rfl rfl)) (hF 19 127 rfl rfl)) rfl (Zc rfl Zc4 (s361.sub.at_ _ _ _ ((fun i v hv => (s361.le).1 _ _ _ (hc287 i v hv)) 1 _ rfl))) s361.sub (by exact rfl)
         ·intro a w359 h360 s361 hat hF
          exact Z3 (Z0 hat (hF 14 122 rfl rfl)) rfl (Z2 rfl Z19) s361.sub (by exact rfl)
         ·intro a w359 h360 s361 hat hF
          have ob368 := (ob227.step0 s361)
          exact Z3 (Z0 (Z0 hat (hF 14 122 rfl rfl)) (hF 21 129 rfl rfl)) rfl (Zc rfl Z4b (OB.cell ob368 (j := 7) rfl)) s361.sub (by exact rfl)
         ·intro a w359 h360 s361 hat hF
          exact Z3 (Z0 hat (hF 14 122 rfl rfl)) rfl (Zu rfl) s361.sub (by exact rfl)
         ·intro a w359 h360 s361 hat hF
          exact Z3 (Z0 (Z0 (Z0 hat (hF 14 122 rfl rfl)) (hF 22 130 rfl rfl)) (hF 23 131 rfl rfl)) rfl (Z07 rfl rfl Z1u Z20 h299 h300) s361.sub (by exact rfl)
         ·intro a w359 h360 s361 hat hF
          exact Z3 (Z0 (Z0 hat (hF 14 122 rfl rfl)) (hF 24 132 rfl rfl)) rfl (Z2 rfl Z42) s361.sub (by exact rfl)
         ·intro a w359 h360 s361 hat hF
          exact Z3 (Z0 (Z0 hat (hF 14 122 rfl rfl)) (hF 25 133 rfl rfl)) rfl (Zc rfl Zc4 (s361.sub.at_ _ _ _ ((fun i v hv => (s361.le).1 _ _ _ (hc303 i v hv)) 1 _ rfl))) s361.sub (by exact rfl)
         ·intro a w359 h360 s361 hat hF
          refine Z2d (Z0 (Z0 (Z0 hat (hF 14 122 rfl rfl)) (hF 20 128 rfl rfl)) (hF 26 134 rfl rfl)) rfl (Ze (vs := [v290, v306]) rfl t_ent_40) (Zh5 _ hr311 s361.sub (rs291.mono (s361.le)) (rs307.mono (s361.le))) ?_
          rintro _ w369 ⟨h370, s371, rfl⟩
          exact ⟨_, h370, rfl, s371, (by exact rfl)⟩
         ·intro a w359 h360 s361 hat hF
          exact Z3 (Z0 (Z0 hat (hF 14 122 rfl rfl)) (hF 27 135 rfl rfl)) rfl (Z3c rfl) s361.sub (by exact rfl)
         ·intro a w359 h360 s361 hat hF
          exact Z3 (Z0 (Z0 hat (hF 14 122 rfl rfl)) (hF 28 136 rfl rfl)) rfl (Zg rfl rfl) s361.sub (by exact rfl)
         ·intro a w359 h360 s361 hat hF
          exact Z3 (Z0 hat (hF 29 137 rfl rfl)) rfl (Zci (Zu rfl) hb312) s361.sub (by exact rfl)
         ·intro a w359 h360 s361 hat hF
          exact Z3 (Z0 hat (hF 30 138 rfl rfl)) rfl (Z2 rfl Z19) s361.sub (by exact rfl)
         ·intro a w359 h360 s361 hat hF
          have ob372 := (ob226.step0 s361)
          exact Z3 (Z0 (Z0 hat (hF 30 138 rfl rfl)) (hF 31 139 rfl rfl)) rfl (Zc rfl Z4b (OB.cell ob372 (j := 7) rfl)) s361.sub (by exact rfl)
         ·intro a w359 h360 s361 hat hF
          exact Z3 (Z0 hat (hF 30 138 rfl rfl)) rfl (Zu rfl) s361.sub (by exact rfl)
         ·intro a w359 h360 s361 hat hF
          exact Z3 (Z0 (Z0 (Z0 hat (hF 30 138 rfl rfl)) (hF 32 140 rfl rfl)) (hF 33 141 rfl rfl)) rfl (Z07 rfl rfl Z1u Z20 h332 h333) s361.sub (by exact rfl)
         ·intro a w359 h360 s361 hat hF
          exact Z3 (Z0 (Z0 hat (hF 30 138 rfl rfl)) (hF 34 142 rfl rfl)) rfl (Z2 rfl Z8c) s361.sub (by exact rfl)
         ·intro a w359 h360 s361 hat hF
          exact Z3 (Z0 (Z0 hat (hF 30 138 rfl rfl)) (hF 35 143 rfl rfl)) rfl (Zc rfl Z4f (s361.sub.at_ _ _ _ ((fun i v hv => (s361.le).1 _ _ _ (hc336 i v hv)) 2 _ rfl))) s361.sub (by exact rfl)
         ·intro a w359 h360 s361 hat hF
          exact Z3 (Z0 hat (hF 30 138 rfl rfl)) rfl (Z2 rfl Z19) s361.sub (by exact rfl)
         ·intro a w359 h360 s361 hat hF
          have ob373 := (ob227.step0 s361)
          exact Z3 (Z0 (Z0 hat (hF 30 138 rfl rfl)) (hF 37 145 rfl rfl)) rfl (Zc rfl Z4b (OB.cell ob373 (j := 7) rfl)) s361.sub (by exact rfl)
         ·intro a w359 h360 s361 hat hF
          exact Z3 (Z0 hat (hF 30 138 rfl rfl)) rfl (Zu rfl) s361.sub (by exact rfl)
         ·intro a w359 h360 s361 hat hF
          exact Z3 (Z0 (Z0 (Z0 hat (hF 30 138 rfl rfl)) (hF 38 146 rfl rfl)) (hF 39 147 rfl rfl)) rfl (Z07 rfl rfl Z1u Z20 h348 h349) s361.sub (by exact rfl)
         ·intro a w359 h360 s361 hat hF
          exact Z3 (Z0 (Z0 hat (hF 30 138 rfl rfl)) (hF 40 148 rfl rfl)) rfl (Z2 rfl Z8c) s361.sub (by exact rfl)
         intro a w359 h360 s361 hat hF
         exact Z3 (Z0 (Z0 hat (hF 30 138 rfl rfl)) (hF 41 149 rfl rfl)) rfl (Zc rfl Z4f (s361.sub.at_ _ _ _ ((fun i v hv => (s361.le).1 _ _ _ (hc352 i v hv)) 2 _ rfl))) s361.sub (by exact rfl)
        intro a w359 h360 s361 hat hF
        obtain hv0 := hF 0 108 (by decide) rfl
        obtain hv1 := hF 1 109 (by decide) rfl
        obtain hv2 := hF 2 110 (by decide) rfl
        obtain hv3 := hF 3 111 (by decide) rfl
        obtain hv4 := hF 4 112 (by decide) rfl
        obtain hv5 := hF 5 113 (by decide) rfl
        obtain hv6 := hF 6 114 (by decide) rfl
        obtain hv7 := hF 7 115 (by decide) rfl
        obtain hv8 := hF 8 116 (by decide) rfl
        obtain hv9 := hF 9 117 (by decide) rfl
        obtain hv10 := hF 10 118 (by decide) rfl
        obtain hv11 := hF 11 119 (by decide) rfl
        obtain hv12 := hF 12 120 (by decide) rfl
        obtain hv13 := hF 13 121 (by decide) rfl
        obtain hv14 := hF 14 122 (by decide) rfl
        obtain hv15 := hF 15 123 (by decide) rfl
        obtain hv16 := hF 16 124 (by decide) rfl
        obtain hv17 := hF 17 125 (by decide) rfl
        obtain hv18 := hF 18 126 (by decide) rfl
        obtain hv19 := hF 19 127 (by decide) rfl
        obtain hv20 := hF 20 128 (by decide) rfl
        obtain hv21 := hF 21 129 (by decide) rfl
        obtain hv22 := hF 22 130 (by decide) rfl
        obtain hv23 := hF 23 131 (by decide) rfl
        obtain hv24 := hF 24 132 (by decide) rfl
        obtain hv25 := hF 25 133 (by decide) rfl
        obtain hv26 := hF 26 134 (by decide) rfl
        obtain hv27 := hF 27 135 (by decide) rfl
        obtain hv28 := hF 28 136 (by decide) rfl
        obtain hv29 := hF 29 137 (by decide) rfl
        obtain hv30 := hF 30 138 (by decide) rfl
        obtain hv31 := hF 31 139 (by decide) rfl
        obtain hv32 := hF 32 140 (by decide) rfl
        obtain hv33 := hF 33 141 (by decide) rfl
        obtain hv34 := hF 34 142 (by decide) rfl
        obtain hv35 := hF 35 143 (by decide) rfl
        obtain hv36 := hF 36 144 (by decide) rfl
        obtain hv37 := hF 37 145 (by decide) rfl
        obtain hv38 := hF 38 146 (by decide) rfl
        obtain hv39 := hF 39 147 (by decide) rfl
        obtain hv40 := hF 40 148 (by decide) rfl
        obtain hv41 := hF 41 149 (by decide) rfl
        obtain hv42 := hF 42 150 (by decide) rfl
        refine Z7z [(150, v357), (149, pt b252 (o253 + Int.toNat x212 * 3 + 2)), (148, pt b252 (o253 + Int.toNat x212 * 3)), (147, vi x212), (146, sl b252 o253 (e50.arms).length c248), (145, pt b63 7), (144, v341), (143, pt b233 (o234 + Int.toNat x212 * 3 + 2)), (142, pt b233 (o234 + Int.toNat x212 * 3)), (141, vi x212), (140, sl b233 o234 (e37.arms).length c229), (139, pt b60 7), (138, .bool false), (137, .bool (!r310)), (136, .bool (!r310)), (135, .bool r310), (134, v306), (133, pt b252 (o253 + Int.toNat x212 * 3 + 1)), (132, pt b252 (o253 + Int.toNat x212 * 3)), (131, vi x212), (130, sl b252 o253 (e50.arms).length c248), (129, pt b63 7), (128, v290), (127, pt b233 (o234 + Int.toNat x212 * 3 + 1)), (126, pt b233 (o234 + Int.toNat x212 * 3)), (125, vi x212), (124, sl b233 o234 (e37.arms).length c229), (123, pt b60 7), (122, .bool false), (121, .bool (!r266)), (120, .bool r266), (119, v260), (118, pt b252 (o253 + Int.toNat x212 * 3)), (117, pt b252 (o253 + Int.toNat x212 * 3)), (116, vi x212), (115, sl b252 o253 (e50.arms).length c248), (114, pt b63 7), (113, v241), (112, pt b233 (o234 + Int.toNat x212 * 3)), (111, pt b233 (o234 + Int.toNat x212 * 3)), (110, vi x212), (109, sl b233 o234 (e37.arms).length c229), (108, pt b60 7), (0, sl b39 o40 (xs1).length c35), (1, sl b52 o53 (xs4).length c48), (5, vi x22), (6, pt b60 0), (7, pt b63 0), (8, vi x212)] (Z0 (Z0 (Z0 (Z0 (Z0 (Z0 (Z0 (Z0 (Z0 (Z0 (Z0 (Z0 (Z0 (Z0 (Z0 (Z0 (Z0 (Z0 (Z0 (Z0 (Z0 (Z0 (Z0 (Z0 (Z0 (Z0 (Z0 (Z0 (Z0 (Z0 (Z0 (Z0 (Z0 (Z0 (Z0 (Z0 (Z0 (Z0 (Z0 (Z0 (Z0 (Z0 (Z0 hat hv0) hv1) hv2) hv3) hv4) hv5) hv6) hv7) hv8) hv9) hv10) hv11) hv12) hv13) hv14) hv15) hv16) hv17) hv18) hv19) hv20) hv21) hv22) hv23) hv24) hv25) hv26) hv27) hv28) hv29) hv30) hv31) hv32) hv33) hv34) hv35) hv36) hv37) hv38) hv39) hv40) hv41) hv42) ?_
        have S374 := S225.trans0 s361
        obtain ⟨r375, hr376, HF⟩ := Z8 HF
        refine Wc rfl (Ze (vs := [v341, v357]) rfl t_ent_15) ((IH _ (Nat.le_trans (Nat.le_of_succ_le hj217) (Nat.le_trans (Nat.le_of_succ_le hj25) (Nat.le_refl _)))) hr376 S374.sub (rs342.mono (s361.le)) (rs358.mono (s361.le))) ?_
        rintro _ w378 ⟨h379, s380, rfl⟩
        have S381 := S374.trans0 s380
        refine Wv rfl (Z3c rfl) <| Wv rfl (Zg rfl rfl) <| Z7 ?_
        have ob395 := ((ob226.step0 s361).step0 s380)
        have ob396 := ((ob227.step0 s361).step0 s380)
        refine Z0g [0, 1, 5, 6, 7, 8, 153] _ rfl ?_
        exact J390 ⟨h379, !r375, HF, rfl, S381, (s361.le).trans s380.le, ob395, ob396⟩
       intro J404
       refine Zb <| Z1 <| Wm rfl rfl <| Wv rfl (Z2 rfl Z19) <| Wv rfl (Zc rfl Z4b (OB.cell ob213 (j := 7) rfl)) ?_
       obtain ⟨A218, c219, rfl, rs220⟩ := RS.form (rs85.mono ((s90.le).trans ((s107.le).trans ((le159).trans ((le204).trans le210)))))
       refine Wv rfl (Z1n rfl Z1u) <| Wv rfl (Zbt rfl rfl) <| Z7 <| Z6 <| Z17 HF rfl (fun HF => ?_) (fun HF => ?_)
       ·refine Zm <| Z0g [0, 1, 5, 6, 7, 8] _ rfl ?_
        exact J404 ⟨h208, HF, rfl, S211, Hle.refl _, ob213, ob214⟩
       refine Z4x <| Zz <| Zz <| Z1a <| Z0a <| Z0g [0, 1, 5] _ rfl ?_
       exact J413 ⟨j215, h208, (Nat.le_trans (Nat.le_of_succ_le hj217) (Nat.le_refl _)), HF, rfl, S211, (s69.le).trans ((s90.le).trans ((s107.le).trans ((le159).trans ((le204).trans le210))))⟩
      exact ⟨h202, 0, HF, rfl, S205, Hle.refl _, ob206, ob207⟩
     intro J405
     refine Z09 (fun E w190 => ∃ (h189 : Hp) (x193 : Bool), Zbn j23 (Z0u j23) xs1 xs4 x22 e37 e50 x193 = some r ∧ E = [(0, sl b39 o40 (xs1).length c35), (1, sl b52 o53 (xs4).length c48), (5, vi x22), (6, pt b60 0), (7, pt b63 0), (100, .bool x193)] ∧ Stp [] w0 h0 w190 h189 ∧ Hle h157 h189 ∧ OB w190 h189 b60 56 [vi e37.op, .string e37.name, v76, v78, v80, vi e37.n, v82, v84, v86, .bool e37.els] ∧ OB w190 h189 b63 56 [vi e50.op, .string e50.name, v94, v96, v98, vi e50.n, v100, v102, v104, .bool e50.els]) ?_ ?_
     ·rintro E w190 ⟨h189, x193, HF, rfl, S192, le191, ob194, ob195⟩
      refine Z17 HF rfl (fun HF => ?_) (fun HF => ?_)
      ·refine Zb <| Z1 <| Wa rfl rfl <| Z7 <| Z6 <| Z00 <| Zi <| Zy <| Zi <| Zi <| Zy <| Zi <| Zt rfl rfl ?_
       obtain rfl := Option.some.inj HF
       exact ⟨_, rfl, h189, S192, rfl⟩
      refine Zm <| Z0g [0, 1, 5, 6, 7] _ rfl ?_
      exact J405 ⟨h189, HF, rfl, S192, le191, ob194, ob195⟩
     intro J197
     refine Z1 <| Wv rfl (Z2 rfl Z65) <| Wv rfl (Zc rfl Z4f (OB.cell ob161 (j := 6) rfl)) <| Wv rfl (Z2 rfl Z65) <| Wv rfl (Zc rfl Z4f (OB.cell ob162 (j := 6) rfl)) ?_
     obtain ⟨r163, hr164, HF⟩ := Z8 HF
     refine Wc rfl (Ze (vs := [v82, v100]) rfl t_ent_15) ((IH _ (Nat.le_trans (Nat.le_of_succ_le hj25) (Nat.le_refl _))) hr164 S160.sub (rs83.mono ((s90.le).trans ((s107.le).trans le159))) (rs101.mono ((s107.le).trans le159))) ?_
     rintro _ w166 ⟨h167, s168, rfl⟩
     have S169 := S160.trans0 s168
     refine Wv rfl (Z3c rfl) <| Wm rfl rfl <| Z3g 84 HF rfl (fun HF => ?_) (fun HF => ?_)
     ·refine Wp rfl <| Wp rfl <| Wp rfl <| Wp rfl <| Wp rfl <| Wp rfl <| Wv rfl (Zh rfl rfl) <| Wm rfl rfl <| Wp rfl <| Wp rfl <| Wp rfl <| Wp rfl <| Wp rfl <| Wp rfl <| Wp rfl <| Wv rfl (Zh rfl rfl) <| Z7 ?_
      have ob198 := (ob161.step0 s168)
      have ob199 := (ob162.step0 s168)
      refine Z0g [0, 1, 5, 6, 7, 100] _ rfl ?_
      exact J197 ⟨h167, true, HF, rfl, S169, s168.le, ob198, ob199⟩
     refine Wv rfl (Z2 rfl Z5f) ?_
     have ob171 := (ob161.step0 s168)
     refine Wv rfl (Zc rfl Z4f (OB.cell ob171 (j := 8) rfl)) <| Wv rfl (Z2 rfl Z5f) ?_
     have ob172 := (ob162.step0 s168)
     refine Wv rfl (Zc rfl Z4f (OB.cell ob172 (j := 8) rfl)) ?_
     obtain ⟨r173, hr174, HF⟩ := Z8 HF
     refine Wc rfl (Ze (vs := [v86, v104]) rfl t_ent_15) ((IH _ (Nat.le_trans (Nat.le_of_succ_le hj25) (Nat.le_refl _))) hr174 S169.sub (rs87.mono ((s90.le).trans ((s107.le).trans ((le159).trans s168.le)))) (rs105.mono ((s107.le).trans ((le159).trans s168.le)))) ?_
     rintro _ w176 ⟨h177, s178, rfl⟩
     have S179 := S169.trans0 s178
     refine Wv rfl (Z3c rfl) <| Wv rfl (Zg rfl rfl) <| Wm rfl rfl <| Z3g 92 HF rfl (fun HF => ?_) (fun HF => ?_)
     ·refine Wp rfl <| Wp rfl <| Wp rfl <| Wp rfl <| Wp rfl <| Wp rfl <| Wp rfl <| Wv rfl (Zh rfl rfl) <| Z7 ?_
      have ob200 := (ob171.step0 s178)
      have ob201 := (ob172.step0 s178)
      refine Z0g [0, 1, 5, 6, 7, 100] _ rfl ?_
      exact J197 ⟨h177, true, HF, rfl, S179, (s168.le).trans s178.le, ob200, ob201⟩
     refine Wv rfl (Z2 rfl Z19) ?_
     have ob181 := (ob171.step0 s178)
     refine Wv rfl (Zc rfl Z4b (OB.cell ob181 (j := 7) rfl)) ?_
     obtain ⟨A182, c183, rfl, rs184⟩ := RS.form (rs85.mono ((s90.le).trans ((s107.le).trans ((le159).trans ((s168.le).trans s178.le)))))
     refine Wv rfl (Z1n rfl Z1u) <| Wv rfl (Z2 rfl Z19) ?_
     have ob185 := (ob172.step0 s178)
     refine Wv rfl (Zc rfl Z4b (OB.cell ob185 (j := 7) rfl)) ?_
     obtain ⟨A186, c187, rfl, rs188⟩ := RS.form (rs103.mono ((s107.le).trans ((le159).trans ((s168.le).trans s178.le))))
     refine Wv rfl (Z1n rfl Z1u) <| Wv rfl (Z7e rfl rfl) <| Wv rfl (Zg rfl rfl) <| Z7 <| Z0g [0, 1, 5, 6, 7, 100] _ rfl ?_
     exact J197 ⟨h177, ((e37.arms.length : Int) : Int) != (e50.arms.length : Int), HF, rfl, S179, (s168.le).trans s178.le, ob181, ob185⟩
    intro J406
    refine Z09 (fun E w143 => ∃ (h142 : Hp) (x146 : Bool), Z5u j23 (Z0u j23) xs1 xs4 x22 e37 e50 x146 = some r ∧ E = [(0, sl b39 o40 (xs1).length c35), (1, sl b52 o53 (xs4).length c48), (5, vi x22), (6, pt b60 0), (7, pt b63 0), (77, .bool x146)] ∧ Stp [] w0 h0 w143 h142 ∧ Hle h68 h142 ∧ OB w143 h142 b60 56 [vi e37.op, .string e37.name, v76, v78, v80, vi e37.n, v82, v84, v86, .bool e37.els] ∧ OB w143 h142 b63 56 [vi e50.op, .string e50.name, v94, v96, v98, vi e50.n, v100, v102, v104, .bool e50.els]) ?_ ?_
    ·rintro E w143 ⟨h142, x146, HF, rfl, S145, le144, ob147, ob148⟩
     refine Z17 HF rfl (fun HF => ?_) (fun HF => ?_)
     ·refine Zb <| Z1 <| Wa rfl rfl <| Z7 <| Z6 <| Z00 <| Zi <| Zy <| Zi <| Zi <| Zy <| Zi <| Zt rfl rfl ?_
      obtain rfl := Option.some.inj HF
      exact ⟨_, rfl, h142, S145, rfl⟩
     refine Zm <| Z0g [0, 1, 5, 6, 7] _ rfl ?_
     exact J406 ⟨h142, HF, rfl, S145, le144, ob147, ob148⟩
    intro J150
    refine Z1 <| Wv rfl (Z2 rfl Z45) ?_
    have ob110 := (ob91.step1 s107 ne65)
    refine Wv rfl (Zc rfl Z0f (OB.cell ob110 (j := 0) rfl)) <| Wv rfl (Z2 rfl Z45) <| Wv rfl (Zc rfl Z0f (OB.cell ob108 (j := 0) rfl)) <| Wv rfl (Z7e rfl rfl) <| Wm rfl rfl <| Z3g 33 HF rfl (fun HF => ?_) (fun HF => ?_)
    ·refine Wp rfl <| Wp rfl <| Wp rfl <| Wp rfl <| Wp rfl <| Wv rfl (Zh rfl rfl) <| Wm rfl rfl <| Wp rfl <| Wp rfl <| Wp rfl <| Wp rfl <| Wp rfl <| Wv rfl (Zh rfl rfl) <| Wm rfl rfl <| Wp rfl <| Wp rfl <| Wp rfl <| Wp rfl <| Wp rfl <| Wv rfl (Zh rfl rfl) <| Wm rfl rfl <| Wp rfl <| Wp rfl <| Wp rfl <| Wp rfl <| Wp rfl <| Wp rfl <| Wv rfl (Zh rfl rfl) <| Wm rfl rfl <| Wp rfl <| Wp rfl <| Wp rfl <| Wp rfl <| Wp rfl <| Wp rfl <| Wv rfl (Zh rfl rfl) <| Wm rfl rfl <| Wp rfl <| Wp rfl <| Wp rfl <| Wp rfl <| Wp rfl <| Wp rfl <| Wv rfl (Zh rfl rfl) <| Z7 <| Z0g [0, 1, 5, 6, 7, 77] _ rfl ?_
     exact J150 ⟨h68, true, HF, rfl, S109, Hle.refl _, ob110, ob108⟩
    refine Wv rfl (Z2 rfl Zdc) <| Wv rfl (Zc rfl Z2r (OB.cell ob110 (j := 1) rfl)) <| Wv rfl (Z2 rfl Zdc) <| Wv rfl (Zc rfl Z2r (OB.cell ob108 (j := 1) rfl)) <| Wv rfl (ov_neqS rfl rfl) <| Wv rfl (Zg rfl rfl) <| Wm rfl rfl <| Z3g 40 HF rfl (fun HF => ?_) (fun HF => ?_)
    ·refine Wp rfl <| Wp rfl <| Wp rfl <| Wp rfl <| Wp rfl <| Wv rfl (Zh rfl rfl) <| Wm rfl rfl <| Wp rfl <| Wp rfl <| Wp rfl <| Wp rfl <| Wp rfl <| Wv rfl (Zh rfl rfl) <| Wm rfl rfl <| Wp rfl <| Wp rfl <| Wp rfl <| Wp rfl <| Wp rfl <| Wp rfl <| Wv rfl (Zh rfl rfl) <| Wm rfl rfl <| Wp rfl <| Wp rfl <| Wp rfl <| Wp rfl <| Wp rfl <| Wp rfl <| Wv rfl (Zh rfl rfl) <| Wm rfl rfl <| Wp rfl <| Wp rfl <| Wp rfl <| Wp rfl <| Wp rfl <| Wp rfl <| Wv rfl (Zh rfl rfl) <| Z7 <| Z0g [0, 1, 5, 6, 7, 77] _ rfl ?_
     exact J150 ⟨h68, true, HF, rfl, S109, Hle.refl _, ob110, ob108⟩
    refine Wv rfl (Z2 rfl Z5d) <| Wv rfl (Zc rfl Z0f (OB.cell ob110 (j := 5) rfl)) <| Wv rfl (Z2 rfl Z5d) <| Wv rfl (Zc rfl Z0f (OB.cell ob108 (j := 5) rfl)) <| Wv rfl (Z7e rfl rfl) <| Wv rfl (Zg rfl rfl) <| Wm rfl rfl <| Z3g 47 HF rfl (fun HF => ?_) (fun HF => ?_)
    ·refine Wp rfl <| Wp rfl <| Wp rfl <| Wp rfl <| Wp rfl <| Wv rfl (Zh rfl rfl) <| Wm rfl rfl <| Wp rfl <| Wp rfl <| Wp rfl <| Wp rfl <| Wp rfl <| Wp rfl <| Wv rfl (Zh rfl rfl) <| Wm rfl rfl <| Wp rfl <| Wp rfl <| Wp rfl <| Wp rfl <| Wp rfl <| Wp rfl <| Wv rfl (Zh rfl rfl) <| Wm rfl rfl <| Wp rfl <| Wp rfl <| Wp rfl <| Wp rfl <| Wp rfl <| Wp rfl <| Wv rfl (Zh rfl rfl) <| Z7 <| Z0g [0, 1, 5, 6, 7, 77] _ rfl ?_
     exact J150 ⟨h68, true, HF, rfl, S109, Hle.refl _, ob110, ob108⟩
    refine Wv rfl (Z2 rfl Z5a) <| Wv rfl (Zc rfl Zea (OB.cell ob110 (j := 9) rfl)) <| Wv rfl (Z2 rfl Z5a) <| Wv rfl (Zc rfl Zea (OB.cell ob108 (j := 9) rfl)) <| Wv rfl (ov_neqB rfl rfl Zf9) <| Wv rfl (Zg rfl rfl) <| Wm rfl rfl <| Z3g 54 HF rfl (fun HF => ?_) (fun HF => ?_)
    ·refine Wp rfl <| Wp rfl <| Wp rfl <| Wp rfl <| Wp rfl <| Wp rfl <| Wv rfl (Zh rfl rfl) <| Wm rfl rfl <| Wp rfl <| Wp rfl <| Wp rfl <| Wp rfl <| Wp rfl <| Wp rfl <| Wv rfl (Zh rfl rfl) <| Wm rfl rfl <| Wp rfl <| Wp rfl <| Wp rfl <| Wp rfl <| Wp rfl <| Wp rfl <| Wv rfl (Zh rfl rfl) <| Z7 <| Z0g [0, 1, 5, 6, 7, 77] _ rfl ?_
     exact J150 ⟨h68, true, HF, rfl, S109, Hle.refl _, ob110, ob108⟩
    refine Wv rfl (Z2 rfl Z78) <| Wv rfl (Zc rfl t_agg_53 (OB.cell ob110 (j := 3) rfl)) <| Wv rfl (Z2 rfl Z78) <| Wv rfl (Zc rfl t_agg_53 (OB.cell ob108 (j := 3) rfl)) ?_
    obtain ⟨r115, hr116, HF⟩ := Z8 HF
    refine Wc rfl (Ze (vs := [v78, v96]) rfl t_ent_38) (ok_ref02_SameStrings _ hr116 S109.sub (rs79.mono ((s90.le).trans s107.le)) (rs97.mono (s107.le))) ?_
    rintro _ w118 ⟨h119, s120, rfl⟩
    have S121 := S109.trans0 s120
    refine Wv rfl (Z3c rfl) <| Wv rfl (Zg rfl rfl) <| Wm rfl rfl <| Z3g 62 HF rfl (fun HF => ?_) (fun HF => ?_)
    ·refine Wp rfl <| Wp rfl <| Wp rfl <| Wp rfl <| Wp rfl <| Wp rfl <| Wv rfl (Zh rfl rfl) <| Wm rfl rfl <| Wp rfl <| Wp rfl <| Wp rfl <| Wp rfl <| Wp rfl <| Wp rfl <| Wv rfl (Zh rfl rfl) <| Z7 ?_
     have ob151 := (ob110.step0 s120)
     have ob152 := (ob108.step0 s120)
     refine Z0g [0, 1, 5, 6, 7, 77] _ rfl ?_
     exact J150 ⟨h119, true, HF, rfl, S121, s120.le, ob151, ob152⟩
    refine Wv rfl (Z2 rfl Z6z) ?_
    have ob123 := (ob110.step0 s120)
    refine Wv rfl (Zc rfl Z2k (OB.cell ob123 (j := 2) rfl)) <| Wv rfl (Z2 rfl Z6z) ?_
    have ob124 := (ob108.step0 s120)
    refine Wv rfl (Zc rfl Z2k (OB.cell ob124 (j := 2) rfl)) ?_
    obtain ⟨r125, hr126, HF⟩ := Z8 HF
    refine Wc rfl (Ze (vs := [v76, v94]) rfl t_ent_39) (Z6q _ hr126 S121.sub (rs77.mono ((s90.le).trans ((s107.le).trans s120.le))) (rs95.mono ((s107.le).trans s120.le))) ?_
    rintro _ w128 ⟨h129, s130, rfl⟩
    have S131 := S121.trans0 s130
    refine Wv rfl (Z3c rfl) <| Wv rfl (Zg rfl rfl) <| Wm rfl rfl <| Z3g 70 HF rfl (fun HF => ?_) (fun HF => ?_)
    ·refine Wp rfl <| Wp rfl <| Wp rfl <| Wp rfl <| Wp rfl <| Wp rfl <| Wv rfl (Zh rfl rfl) <| Z7 ?_
     have ob153 := (ob123.step0 s130)
     have ob154 := (ob124.step0 s130)
     refine Z0g [0, 1, 5, 6, 7, 77] _ rfl ?_
     exact J150 ⟨h129, true, HF, rfl, S131, (s120.le).trans s130.le, ob153, ob154⟩
    refine Wv rfl (Z2 rfl Z3o) ?_
    have ob133 := (ob123.step0 s130)
    refine Wv rfl (Zc rfl Z2k (OB.cell ob133 (j := 4) rfl)) <| Wv rfl (Z2 rfl Z3o) ?_
    have ob134 := (ob124.step0 s130)
    refine Wv rfl (Zc rfl Z2k (OB.cell ob134 (j := 4) rfl)) ?_
    obtain ⟨r135, hr136, HF⟩ := Z8 HF
    refine Wc rfl (Ze (vs := [v80, v98]) rfl t_ent_39) (Z6q _ hr136 S131.sub (rs81.mono ((s90.le).trans ((s107.le).trans ((s120.le).trans s130.le)))) (rs99.mono ((s107.le).trans ((s120.le).trans s130.le)))) ?_
    rintro _ w138 ⟨h139, s140, rfl⟩
    have S141 := S131.trans0 s140
    refine Wv rfl (Z3c rfl) <| Wv rfl (Zg rfl rfl) <| Z7 ?_
    have ob155 := (ob133.step0 s140)
    have ob156 := (ob134.step0 s140)
    refine Z0g [0, 1, 5, 6, 7, 77] _ rfl ?_
    exact J150 ⟨h139, !r135, HF, rfl, S141, (s120.le).trans ((s130.le).trans s140.le), ob155, ob156⟩
   intro J414
   refine Zb <| Z1 <| Wm rfl rfl <| Wm rfl rfl ?_
   obtain ⟨A26, c27, rfl, rs28⟩ := RS.form (rs3.mono ((le16).trans le20))
   refine Wv rfl (Z1n rfl Z1y) <| Wv rfl (Zbt rfl rfl) <| Z7 <| Z6 <| Z17 HF rfl (fun HF => ?_) (fun HF => ?_)
   ·refine Zm <| Z0g [0, 1, 5] _ rfl ?_
    exact J414 ⟨h18, HF, rfl, S21, Hle.refl _⟩
   refine Z4x <| Zz <| Zz <| Z1a <| Z6 <| Zb <| Z1 <| Wa rfl rfl <| Z7 <| Z6 <| Z00 <| Zt rfl rfl ?_
   obtain rfl := Option.some.inj HF
   exact ⟨_, rfl, h18, S21, rfl⟩
  exact ⟨h14, 0, HF, rfl, S17, Hle.refl _⟩
 intro J415
 refine Zb <| Z1 <| Wm rfl rfl ?_
 obtain ⟨A7, c8, rfl, rs9⟩ := RS.form rs3
 refine Wv rfl (Z1n rfl Z1y) <| Wm rfl rfl ?_
 obtain ⟨A10, c11, rfl, rs12⟩ := RS.form rs6
 refine Wv rfl (Z1n rfl Z1y) <| Wv rfl (Z7e rfl rfl) <| Z7 <| Z6 <| Z17 HF rfl (fun HF => ?_) (fun HF => ?_)
 ·refine Zb <| Z1 <| Wa rfl rfl <| Z7 <| Z6 <| Z00 <| Zi <| Zt rfl rfl ?_
  obtain rfl := Option.some.inj HF
  exact ⟨_, rfl, h0, S0, rfl⟩
 refine Zm <| Z0g [0, 1] _ rfl ?_
 exact J415 ⟨h0, HF, rfl, S0, Hle.refl _⟩
theorem all_ref02_Same : ∀ k j, j ≤ k → Zg7 (Z0u j).ref02_Same := by
  intro k
  induction k with
  | zero =>
    intro j hj
    obtain rfl : j = 0 := by omega
    exact (fun _ _ _ => by intro h; cases h)
  | succ k ih =>
    intro j hj
    by_cases h : j ≤ k
    · exact ih j h
    · obtain rfl : j = k + 1 := by omega
      exact s_ref02_Same k ih
theorem Zee (k : Nat) : Zg7 (Zdf k) := (all_ref02_Same k k (Nat.le_refl _))
def Zbq (φ : Int → Int → Int → Int → Option (Int × Int)) : Prop := ∀ ⦃x3 : Int⦄ ⦃x7 : Int⦄ ⦃x9 : Int⦄ ⦃x10 : Int⦄ ⦃r : Int × Int⦄, φ x3 x7 x9 x10 = some r → ∀ ⦃w0 : World⦄ ⦃h0 : Hp⦄ ⦃b1 : Nat⦄ ⦃T2 : Nat⦄ ⦃b5 : Nat⦄ ⦃T6 : Nat⦄, Sub h0 w0 → OB w0 h0 b1 T2 [.int .i64 x3] → OB w0 h0 b5 T6 [.int .i64 x7] → b1 ≠ b5 →
  CallsD Tryz.prog 98 #[.pointer (some ⟨b1, 0, none⟩), .pointer (some ⟨b5, 0, none⟩)] (.panicking [{ v := .iface 138 (.agg #[.int .i64 x9, .int .i64 x10]), recovered := false }]) w0 fun e u w1 => u = .panicking [{ v := .iface 138 (.agg #[.int .i64 x9, .int .i64 x10]), recovered := true }] ∧ ∃ v, e = .returned v ∧ ∃ h1, Stp [b1, b5] w0 h0 w1 h1 ∧ v = .tuple #[] ∧ (OB w1 h1 b1 T2 [.int .i64 r.1]) ∧ (OB w1 h1 b5 T6 [.int .i64 r.2])
theorem s_parse_Source_1_panic (k : Nat) : Zbq (Z5s k) := by
 intro x3 x7 x9 x10 r HF w0 h0 b1 T2 b5 T6 hs0 ob4 ob8 ne11
 have S0 : Stp [b1, b5] w0 h0 w0 h0 := Stp.refl hs0 _
 have lt12 : b1 < w0.heap.size := OB.lt ob4
 have lt13 : b5 < w0.heap.size := OB.lt ob8
 refine enterR (n := 15) (dd := 5) (x := .iface 138 (.agg #[vi x9, vi x10])) (.inr ⟨_, rfl, rfl, rfl⟩) Tryz.func98 rfl Tryz.ntmps98 rfl rfl [(5, .iface 138 (.agg #[vi x9, vi x10])), (0, pt b1 0), (1, pt b5 0)] rfl <| Z0p <| Zb <| Z1 <| Wv rfl (ov_eqlHN rfl t_imeth_20) <| Z7 <| Z6 <| WC.condF rfl <| Zb <| Z1 <| Wv rfl (ov_assertT rfl t_conc_138) <| Wv rfl (Z0c rfl rfl) <| Wv rfl (Z0c rfl rfl) <| Z7 <| Z6 <| WC.condT rfl <| Zb <| Z1 <| Z15 (zs := [vi 0, vi 0]) rfl rfl t_zero_138 rfl S0.sub (fun w14 b15 hb16 s17 ob18 => ?_)
 have ne19 : b1 ≠ b15 := ob4.ne_new hb16
 have ne20 : b5 ≠ b15 := ob8.ne_new hb16
 have g21 : w0.heap.size ≤ b15 := by rw [hb16]; exact S0.size
 have S22 := S0.trans0 s17
 refine Zo (vs := [vi x9, vi x10]) rfl rfl rfl rfl t_size_138 (Z5 rfl (Z5 rfl Zx)) ob18 S22.sub (by simp) (ds := [vi x9, vi x10]) rfl (fun w23 s24 ob25 => ?_)
 have S26 := S22.trans1 s24 (.inr g21)
 refine Z7 <| Z6 <| WC.drawnA Z3f S26.sub (fun w27 s28 => ?_)
 have S29 := S26.trans0 s28
 refine WA.two (i := 0) (j := 2) (by kernel_rfl) rfl rfl ?_ ?_
 ·skip
  refine Wv rfl (Z2 rfl t_field_138_1) <| Z7 <| Z1f <| WA.two (i := 1) (j := 2) (by kernel_rfl) rfl rfl ?_ ?_
  ·skip
   have ob30 := (ob25.step0 s28)
   refine Wv rfl (Zc rfl Z0f (OB.cell ob30 (j := 1) rfl)) <| Z7 <| Z1f <| WA.two (i := 2) (j := 4) (by kernel_rfl) rfl rfl ?_ ?_
   ·skip
    refine Wv rfl (Z2 rfl Zek) <| Z7 <| Z1f <| WA.two (i := 3) (j := 4) (by kernel_rfl) rfl rfl ?_ ?_
    ·skip
     refine Wv rfl (Zc rfl Z5c (OB.cell ob30 (j := 0) rfl)) <| Z7 <| Z1f <| WA.one (i := 4) (by kernel_rfl) rfl ?_
     have ob31 := (((ob4.step0 s17).step1 s24 ne19).step0 s28)
     refine Zo (vs := [vi x10]) rfl rfl rfl rfl Z1p (Z5 rfl Zx) ob31 S29.sub (by simp) (ds := [vi x10]) rfl (fun w32 s33 ob34 => ?_)
     have S35 := S29.trans1 s33 (.inl (by simp))
     refine Z7 <| Z1f <| WA.one (i := 5) (by kernel_rfl) rfl ?_
     have ob36 := ((((ob8.step0 s17).step1 s24 ne20).step0 s28).step1 s33 (Ne.symm ne11))
     refine Zo (vs := [vi x9]) rfl rfl rfl rfl Z5i (Z5 rfl Zx) ob36 S35.sub (by simp) (ds := [vi x9]) rfl (fun w37 s38 ob39 => ?_)
     have S40 := S35.trans1 s38 (.inl (by simp))
     refine Z7 <| Z1f <| WA.fin (by kernel_rfl) <| Z0a ?_
     have ob41 := (ob34.step1 s38 ne11)
     refine Zb0 rfl ?_
     obtain rfl := Option.some.inj HF
     exact ⟨_, rfl, h0, S40, rfl, ob41, ob39⟩
    skip
    have ob42 := (((ob4.step0 s17).step1 s24 ne19).step0 s28)
    refine Zo (vs := [vi x10]) rfl rfl rfl rfl Z1p (Z5 rfl Zx) ob42 S29.sub (by simp) (ds := [vi x10]) rfl (fun w43 s44 ob45 => ?_)
    have S46 := S29.trans1 s44 (.inl (by simp))
    refine Z7 <| Z1f <| WA.one (i := 3) (by kernel_rfl) rfl ?_
    have ob47 := (ob30.step1 s44 (Ne.symm ne19))
    refine Wv rfl (Zc rfl Z5c (OB.cell ob47 (j := 0) rfl)) <| Z7 <| Z1f <| WA.one (i := 5) (by kernel_rfl) rfl ?_
    have ob48 := ((((ob8.step0 s17).step1 s24 ne20).step0 s28).step1 s44 (Ne.symm ne11))
    refine Zo (vs := [vi x9]) rfl rfl rfl rfl Z5i (Z5 rfl Zx) ob48 S46.sub (by simp) (ds := [vi x9]) rfl (fun w49 s50 ob51 => ?_)
    have S52 := S46.trans1 s50 (.inl (by simp))
    refine Z7 <| Z1f <| WA.fin (by kernel_rfl) <| Z0a ?_
    have ob53 := (ob45.step1 s50 ne11)
    refine Zb0 rfl ?_
    obtain rfl := Option.some.inj HF
    exact ⟨_, rfl, h0, S52, rfl, ob53, ob51⟩
   skip
   have ob54 := (((ob4.step0 s17).step1 s24 ne19).step0 s28)
   refine Zo (vs := [vi x10]) rfl rfl rfl rfl Z1p (Z5 rfl Zx) ob54 S29.sub (by simp) (ds := [vi x10]) rfl (fun w55 s56 ob57 => ?_)
   have S58 := S29.trans1 s56 (.inl (by simp))
   refine Z7 <| Z1f <| WA.one (i := 2) (by kernel_rfl) rfl <| Wv rfl (Z2 rfl Zek) <| Z7 <| Z1f <| WA.one (i := 3) (by kernel_rfl) rfl ?_
   have ob59 := (ob30.step1 s56 (Ne.symm ne19))
   refine Wv rfl (Zc rfl Z5c (OB.cell ob59 (j := 0) rfl)) <| Z7 <| Z1f <| WA.one (i := 5) (by kernel_rfl) rfl ?_
   have ob60 := ((((ob8.step0 s17).step1 s24 ne20).step0 s28).step1 s56 (Ne.symm ne11))
   refine Zo (vs := [vi x9]) rfl rfl rfl rfl Z5i (Z5 rfl Zx) ob60 S58.sub (by simp) (ds := [vi x9]) rfl (fun w61 s62 ob63 => ?_)
   have S64 := S58.trans1 s62 (.inl (by simp))
   refine Z7 <| Z1f <| WA.fin (by kernel_rfl) <| Z0a ?_
   have ob65 := (ob57.step1 s62 ne11)
   refine Zb0 rfl ?_
   obtain rfl := Option.some.inj HF
   exact ⟨_, rfl, h0, S64, rfl, ob65, ob63⟩
  skip
  refine Wv rfl (Z2 rfl Zek) <| Z7 <| Z1f <| WA.two (i := 1) (j := 3) (by kernel_rfl) rfl rfl ?_ ?_
  ·skip
   have ob66 := (ob25.step0 s28)
   refine Wv rfl (Zc rfl Z0f (OB.cell ob66 (j := 1) rfl)) <| Z7 <| Z1f <| WA.two (i := 3) (j := 4) (by kernel_rfl) rfl rfl ?_ ?_
   ·skip
    refine Wv rfl (Zc rfl Z5c (OB.cell ob66 (j := 0) rfl)) <| Z7 <| Z1f <| WA.one (i := 4) (by kernel_rfl) rfl ?_
    have ob67 := (((ob4.step0 s17).step1 s24 ne19).step0 s28)
    refine Zo (vs := [vi x10]) rfl rfl rfl rfl Z1p (Z5 rfl Zx) ob67 S29.sub (by simp) (ds := [vi x10]) rfl (fun w68 s69 ob70 => ?_)
    have S71 := S29.trans1 s69 (.inl (by simp))
    refine Z7 <| Z1f <| WA.one (i := 5) (by kernel_rfl) rfl ?_
    have ob72 := ((((ob8.step0 s17).step1 s24 ne20).step0 s28).step1 s69 (Ne.symm ne11))
    refine Zo (vs := [vi x9]) rfl rfl rfl rfl Z5i (Z5 rfl Zx) ob72 S71.sub (by simp) (ds := [vi x9]) rfl (fun w73 s74 ob75 => ?_)
    have S76 := S71.trans1 s74 (.inl (by simp))
    refine Z7 <| Z1f <| WA.fin (by kernel_rfl) <| Z0a ?_
    have ob77 := (ob70.step1 s74 ne11)
    refine Zb0 rfl ?_
    obtain rfl := Option.some.inj HF
    exact ⟨_, rfl, h0, S76, rfl, ob77, ob75⟩
   skip
   have ob78 := (((ob4.step0 s17).step1 s24 ne19).step0 s28)
   refine Zo (vs := [vi x10]) rfl rfl rfl rfl Z1p (Z5 rfl Zx) ob78 S29.sub (by simp) (ds := [vi x10]) rfl (fun w79 s80 ob81 => ?_)
   have S82 := S29.trans1 s80 (.inl (by simp))
   refine Z7 <| Z1f <| WA.one (i := 3) (by kernel_rfl) rfl ?_
   have ob83 := (ob66.step1 s80 (Ne.symm ne19))
   refine Wv rfl (Zc rfl Z5c (OB.cell ob83 (j := 0) rfl)) <| Z7 <| Z1f <| WA.one (i := 5) (by kernel_rfl) rfl ?_
   have ob84 := ((((ob8.step0 s17).step1 s24 ne20).step0 s28).step1 s80 (Ne.symm ne11))
   refine Zo (vs := [vi x9]) rfl rfl rfl rfl Z5i (Z5 rfl Zx) ob84 S82.sub (by simp) (ds := [vi x9]) rfl (fun w85 s86 ob87 => ?_)
   have S88 := S82.trans1 s86 (.inl (by simp))
   refine Z7 <| Z1f <| WA.fin (by kernel_rfl) <| Z0a ?_
   have ob89 := (ob81.step1 s86 ne11)
   refine Zb0 rfl ?_
   obtain rfl := Option.some.inj HF
   exact ⟨_, rfl, h0, S88, rfl, ob89, ob87⟩
  skip
  have ob90 := (ob25.step0 s28)
  refine Wv rfl (Zc rfl Z5c (OB.cell ob90 (j := 0) rfl)) <| Z7 <| Z1f <| WA.one (i := 1) (by kernel_rfl) rfl <| Wv rfl (Zc rfl Z0f (OB.cell ob90 (j := 1) rfl)) <| Z7 <| Z1f <| WA.one (i := 4) (by kernel_rfl) rfl ?_
  have ob91 := (((ob4.step0 s17).step1 s24 ne19).step0 s28)
  refine Zo (vs := [vi x10]) rfl rfl rfl rfl Z1p (Z5 rfl Zx) ob91 S29.sub (by simp) (ds := [vi x10]) rfl (fun w92 s93 ob94 => ?_)
  have S95 := S29.trans1 s93 (.inl (by simp))
  refine Z7 <| Z1f <| WA.one (i := 5) (by kernel_rfl) rfl ?_
  have ob96 := ((((ob8.step0 s17).step1 s24 ne20).step0 s28).step1 s93 (Ne.symm ne11))
  refine Zo (vs := [vi x9]) rfl rfl rfl rfl Z5i (Z5 rfl Zx) ob96 S95.sub (by simp) (ds := [vi x9]) rfl (fun w97 s98 ob99 => ?_)
  have S100 := S95.trans1 s98 (.inl (by simp))
  refine Z7 <| Z1f <| WA.fin (by kernel_rfl) <| Z0a ?_
  have ob101 := (ob94.step1 s98 ne11)
  refine Zb0 rfl ?_
  obtain rfl := Option.some.inj HF
  exact ⟨_, rfl, h0, S100, rfl, ob101, ob99⟩
 skip
 refine Wv rfl (Z2 rfl Zek) <| Z7 <| Z1f <| WA.two (i := 0) (j := 3) (by kernel_rfl) rfl rfl ?_ ?_
 ·skip
  refine Wv rfl (Z2 rfl t_field_138_1) <| Z7 <| Z1f <| WA.two (i := 1) (j := 3) (by kernel_rfl) rfl rfl ?_ ?_
  ·skip
   have ob102 := (ob25.step0 s28)
   refine Wv rfl (Zc rfl Z0f (OB.cell ob102 (j := 1) rfl)) <| Z7 <| Z1f <| WA.two (i := 3) (j := 4) (by kernel_rfl) rfl rfl ?_ ?_
   ·skip
    refine Wv rfl (Zc rfl Z5c (OB.cell ob102 (j := 0) rfl)) <| Z7 <| Z1f <| WA.one (i := 4) (by kernel_rfl) rfl ?_
    have ob103 := (((ob4.step0 s17).step1 s24 ne19).step0 s28)
    refine Zo (vs := [vi x10]) rfl rfl rfl rfl Z1p (Z5 rfl Zx) ob103 S29.sub (by simp) (ds := [vi x10]) rfl (fun w104 s105 ob106 => ?_)
    have S107 := S29.trans1 s105 (.inl (by simp))
    refine Z7 <| Z1f <| WA.one (i := 5) (by kernel_rfl) rfl ?_
    have ob108 := ((((ob8.step0 s17).step1 s24 ne20).step0 s28).step1 s105 (Ne.symm ne11))
    refine Zo (vs := [vi x9]) rfl rfl rfl rfl Z5i (Z5 rfl Zx) ob108 S107.sub (by simp) (ds := [vi x9]) rfl (fun w109 s110 ob111 => ?_)
    have S112 := S107.trans1 s110 (.inl (by simp))
    refine Z7 <| Z1f <| WA.fin (by kernel_rfl) <| Z0a ?_
    have ob113 := (ob106.step1 s110 ne11)
    refine Zb0 rfl ?_
    obtain rfl := Option.some.inj HF
    exact ⟨_, rfl, h0, S112, rfl, ob113, ob111⟩
   skip
   have ob114 := (((ob4.step0 s17).step1 s24 ne19).step0 s28)
   refine Zo (vs := [vi x10]) rfl rfl rfl rfl Z1p (Z5 rfl Zx) ob114 S29.sub (by simp) (ds := [vi x10]) rfl (fun w115 s116 ob117 => ?_)
   have S118 := S29.trans1 s116 (.inl (by simp))
   refine Z7 <| Z1f <| WA.one (i := 3) (by kernel_rfl) rfl ?_
   have ob119 := (ob102.step1 s116 (Ne.symm ne19))
   refine Wv rfl (Zc rfl Z5c (OB.cell ob119 (j := 0) rfl)) <| Z7 <| Z1f <| WA.one (i := 5) (by kernel_rfl) rfl ?_
   have ob120 := ((((ob8.step0 s17).step1 s24 ne20).step0 s28).step1 s116 (Ne.symm ne11))
   refine Zo (vs := [vi x9]) rfl rfl rfl rfl Z5i (Z5 rfl Zx) ob120 S118.sub (by simp) (ds := [vi x9]) rfl (fun w121 s122 ob123 => ?_)
   have S124 := S118.trans1 s122 (.inl (by simp))
   refine Z7 <| Z1f <| WA.fin (by kernel_rfl) <| Z0a ?_
   have ob125 := (ob117.step1 s122 ne11)
   refine Zb0 rfl ?_
   obtain rfl := Option.some.inj HF
   exact ⟨_, rfl, h0, S124, rfl, ob125, ob123⟩
  skip
  have ob126 := (ob25.step0 s28)
  refine Wv rfl (Zc rfl Z5c (OB.cell ob126 (j := 0) rfl)) <| Z7 <| Z1f <| WA.one (i := 1) (by kernel_rfl) rfl <| Wv rfl (Zc rfl Z0f (OB.cell ob126 (j := 1) rfl)) <| Z7 <| Z1f <| WA.one (i := 4) (by kernel_rfl) rfl ?_
  have ob127 := (((ob4.step0 s17).step1 s24 ne19).step0 s28)
  refine Zo (vs := [vi x10]) rfl rfl rfl rfl Z1p (Z5 rfl Zx) ob127 S29.sub (by simp) (ds := [vi x10]) rfl (fun w128 s129 ob130 => ?_)
  have S131 := S29.trans1 s129 (.inl (by simp))
  refine Z7 <| Z1f <| WA.one (i := 5) (by kernel_rfl) rfl ?_
  have ob132 := ((((ob8.step0 s17).step1 s24 ne20).step0 s28).step1 s129 (Ne.symm ne11))
  refine Zo (vs := [vi x9]) rfl rfl rfl rfl Z5i (Z5 rfl Zx) ob132 S131.sub (by simp) (ds := [vi x9]) rfl (fun w133 s134 ob135 => ?_)
  have S136 := S131.trans1 s134 (.inl (by simp))
  refine Z7 <| Z1f <| WA.fin (by kernel_rfl) <| Z0a ?_
  have ob137 := (ob130.step1 s134 ne11)
  refine Zb0 rfl ?_
  obtain rfl := Option.some.inj HF
  exact ⟨_, rfl, h0, S136, rfl, ob137, ob135⟩
 skip
 have ob138 := (ob25.step0 s28)
 refine Wv rfl (Zc rfl Z5c (OB.cell ob138 (j := 0) rfl)) <| Z7 <| Z1f <| WA.one (i := 0) (by kernel_rfl) rfl <| Wv rfl (Z2 rfl t_field_138_1) <| Z7 <| Z1f <| WA.one (i := 1) (by kernel_rfl) rfl <| Wv rfl (Zc rfl Z0f (OB.cell ob138 (j := 1) rfl)) <| Z7 <| Z1f <| WA.one (i := 4) (by kernel_rfl) rfl ?_
 have ob139 := (((ob4.step0 s17).step1 s24 ne19).step0 s28)
 refine Zo (vs := [vi x10]) rfl rfl rfl rfl Z1p (Z5 rfl Zx) ob139 S29.sub (by simp) (ds := [vi x10]) rfl (fun w140 s141 ob142 => ?_)
 have S143 := S29.trans1 s141 (.inl (by simp))
 refine Z7 <| Z1f <| WA.one (i := 5) (by kernel_rfl) rfl ?_
 have ob144 := ((((ob8.step0 s17).step1 s24 ne20).step0 s28).step1 s141 (Ne.symm ne11))
 refine Zo (vs := [vi x9]) rfl rfl rfl rfl Z5i (Z5 rfl Zx) ob144 S143.sub (by simp) (ds := [vi x9]) rfl (fun w145 s146 ob147 => ?_)
 have S148 := S143.trans1 s146 (.inl (by simp))
 refine Z7 <| Z1f <| WA.fin (by kernel_rfl) <| Z0a ?_
 have ob149 := (ob142.step1 s146 ne11)
 refine Zb0 rfl ?_
 obtain rfl := Option.some.inj HF
 exact ⟨_, rfl, h0, S148, rfl, ob149, ob147⟩
theorem Zat (k : Nat) : Zbq (Z5s k) := s_parse_Source_1_panic k
def Zfm (φ : (List Tok) → Int → Option Tok) : Prop := ∀ ⦃xs3 : List Tok⦄ ⦃x6 : Int⦄ ⦃r : Tok⦄, φ xs3 x6 = some r → ∀ ⦃w0 : World⦄ ⦃h0 : Hp⦄ ⦃b1 : Nat⦄ ⦃T2 : Nat⦄ ⦃v4 : Value⦄, Sub h0 w0 → RS h0 v4 xs3 → OB w0 h0 b1 T2 [v4, .int .i64 x6] →
  Calls Tryz.prog 107 #[.pointer (some ⟨b1, 0, none⟩)] w0 fun e w1 => ∃ v, e = .returned v ∧ ∃ h1, Stp [] w0 h0 w1 h1 ∧ (∃ cs : List Value, v = .agg cs.toArray ∧ Rp.R h1 r cs)
theorem s_parse_Parser_Now (k : Nat) : Zfm (Z18 k) := by
 intro xs3 x6 r HF w0 h0 b1 T2 v4 hs0 rs5 ob7
 have S0 : Stp [] w0 h0 w0 h0 := Stp.refl hs0 _
 have lt8 : b1 < w0.heap.size := OB.lt ob7
 refine Z4j (n := 13) Tryz.func107 rfl Tryz.ntmps107 rfl [(0, pt b1 0)] rfl <| Zb <| Z1 <| Z15 (zs := [vi 0, .string b'47, vi 0]) rfl rfl Z60 rfl S0.sub (fun w9 b10 hb11 s12 ob13 => ?_)
 have ne14 : b1 ≠ b10 := ob7.ne_new hb11
 have g15 : w0.heap.size ≤ b10 := by rw [hb11]; exact S0.size
 have S16 := S0.trans0 s12
 refine Z7 <| Z6 <| Zb <| Z2x (m := 8) [(0, pt b1 0), (2, pt b10 0)] [0, 2] rfl (fun i v w h => match i with | 0 => v = pt b1 0 | 1 => v = pt b1 0 | 2 => v = pt b1 0 | 3 => v = v4 | 4 => v = pt b1 0 | 5 => v = pt b1 0 | 6 => v = pt b1 1 | 7 => v = vi x6 | _ => True) Z3f S16.sub rfl rfl rfl rfl rfl ?_ ?_ ?_
 ·intro i v w h w2 h2 hΦ hst
  match i, hΦ with
  | 0, hΦ | 1, hΦ | 2, hΦ | 3, hΦ | 4, hΦ | 5, hΦ | 6, hΦ | 7, hΦ => exact hΦ
  | i + 8, _ => exact trivial
 ·refine ⟨?_, ?_, ?_, ?_, ?_, ?_, ?_, ?_, trivial⟩
  ·intro a w17 h18 s19 hat hF
   exact Z3 hat rfl (Zu rfl) s19.sub (by exact rfl)
  ·intro a w17 h18 s19 hat hF
   exact Z3 (Z0 hat (hF 0 3 rfl rfl)) rfl (Zs rfl) s19.sub (by exact rfl)
  ·intro a w17 h18 s19 hat hF
   exact Z3 (Z0 hat (hF 1 4 rfl rfl)) rfl (Z2 rfl t_field_140_0) s19.sub (by exact rfl)
  ·intro a w17 h18 s19 hat hF
   have ob20 := ((ob7.step0 s12).step0 s19)
   exact Z3 (Z0 hat (hF 2 5 rfl rfl)) rfl (Zc rfl t_agg_34 (OB.cell ob20 (j := 0) rfl)) s19.sub (by exact rfl)
  ·intro a w17 h18 s19 hat hF
   exact Z3 hat rfl (Zu rfl) s19.sub (by exact rfl)
  ·intro a w17 h18 s19 hat hF
   exact Z3 (Z0 hat (hF 4 7 rfl rfl)) rfl (Zs rfl) s19.sub (by exact rfl)
  ·intro a w17 h18 s19 hat hF
   exact Z3 (Z0 hat (hF 5 8 rfl rfl)) rfl (Z2 rfl Z61) s19.sub (by exact rfl)
  intro a w17 h18 s19 hat hF
  have ob21 := ((ob7.step0 s12).step0 s19)
  exact Z3 (Z0 hat (hF 6 9 rfl rfl)) rfl (Zc rfl Z0f (OB.cell ob21 (j := 1) rfl)) s19.sub (by exact rfl)
 intro a w17 h18 s19 hat hF
 obtain hv0 := hF 0 3 (by decide) rfl
 obtain hv1 := hF 1 4 (by decide) rfl
 obtain hv2 := hF 2 5 (by decide) rfl
 obtain hv3 := hF 3 6 (by decide) rfl
 obtain hv4 := hF 4 7 (by decide) rfl
 obtain hv5 := hF 5 8 (by decide) rfl
 obtain hv6 := hF 6 9 (by decide) rfl
 obtain hv7 := hF 7 10 (by decide) rfl
 refine Z7z [(10, vi x6), (9, pt b1 1), (8, pt b1 0), (7, pt b1 0), (6, v4), (5, pt b1 0), (4, pt b1 0), (3, pt b1 0), (0, pt b1 0), (2, pt b10 0)] (Z0 (Z0 (Z0 (Z0 (Z0 (Z0 (Z0 (Z0 hat hv0) hv1) hv2) hv3) hv4) hv5) hv6) hv7) ?_
 have S22 := S16.trans0 s19
 obtain ⟨A23, c24, rfl, rs25⟩ := RS.form (rs5.mono ((s12.le).trans s19.le))
 obtain ⟨e26, he27, HF⟩ := Z8 HF
 obtain ⟨b28, o29, rfl, h31, h32, ra30⟩ := RS.atO rs25 he27
 obtain ⟨cs33, r34, hc35⟩ := ra30
 refine Wv rfl (Z07 rfl rfl Zfj Z1o h31 h32) <| Wv rfl (Z16 (cs := cs33) rfl Z80 (by rw [Rp.len r34]; exact Z1o) (fun j v hv => S22.sub.at_ _ _ _ (hc35 j v hv))) ?_
 have ob36 := (ob13.step0 s19)
 obtain rfl := Z62.1 r34
 refine Zo (vs := [vi e26.kind, .string e26.text, vi e26.pos]) rfl rfl rfl rfl Z1o (Z5 rfl (Z5 rfl (Z5 rfl Zx))) ob36 S22.sub (by simp) (ds := [vi e26.kind, .string e26.text, vi e26.pos]) rfl (fun w37 s38 ob39 => ?_)
 have S40 := S22.trans1 s38 (.inr g15)
 refine Z7 <| Z6 <| Z00 <| Z5p rfl rfl (Z11 (cs := [vi e26.kind, .string e26.text, vi e26.pos]) Z80 Z1o (OB.cells ob39 0 rfl)) ?_
 obtain rfl := Option.some.inj HF
 exact ⟨_, rfl, h18, S40, ⟨_, rfl, (Z62.2 rfl)⟩⟩
theorem Z1b (k : Nat) : Zfm (Z18 k) := s_parse_Parser_Now k
def Zel (φ : (List Tok) → Int → Option (Except (Int × Int) Unit)) : Prop := ∀ ⦃xs3 : List Tok⦄ ⦃x6 : Int⦄ ⦃r : Except (Int × Int) Unit⦄, φ xs3 x6 = some r → ∀ ⦃w0 : World⦄ ⦃h0 : Hp⦄ ⦃b1 : Nat⦄ ⦃T2 : Nat⦄ ⦃v4 : Value⦄, Sub h0 w0 → RS h0 v4 xs3 → OB w0 h0 b1 T2 [v4, .int .i64 x6] →
  Calls Tryz.prog 111 #[.pointer (some ⟨b1, 0, none⟩)] w0 fun e w1 => match r with | .ok r => ∃ v, e = .returned v ∧ ∃ h1, Stp [] w0 h0 w1 h1 ∧ v = .tuple #[] | .error t => ∃ ch, e = .panicked ch ∧ Z8l 138 t.1 t.2 ch ∧ ∃ h1, Stp [] w0 h0 w1 h1
theorem s_parse_Parser_Fail (k : Nat) : Zel (Z35 k) := by
 intro xs3 x6 r HF w0 h0 b1 T2 v4 hs0 rs5 ob7
 have S0 : Stp [] w0 h0 w0 h0 := Stp.refl hs0 _
 have lt8 : b1 < w0.heap.size := OB.lt ob7
 refine Z4j (n := 7) Tryz.func111 rfl Tryz.ntmps111 rfl [(0, pt b1 0)] rfl <| Z1 <| Wm rfl rfl ?_
 obtain ⟨r9, hr10, HF⟩ := Z8 HF
 refine Wc rfl (Ze (vs := [pt b1 0]) rfl Z7s) (Z1b _ hr10 S0.sub rs5 ob7) ?_
 rintro _ w12 ⟨h13, s14, ⟨cs15, rfl, r16⟩⟩
 have S17 := S0.trans0 s14
 obtain rfl := Z62.1 r16
 refine Wv rfl (Za7 rfl t_fld_38_2 Z0f rfl) <| Wv rfl (Z38 (vs := [(0, vi 4), (1, vi r9.pos)]) (cs := [vi 4, vi r9.pos]) rfl t_places_138 t_zero_138 rfl) <| Wv rfl (ov_makeIface rfl t_conc_138) <| WL.panicI rfl rfl <| Zp ?_
 obtain rfl := Option.some.inj HF
 exact ⟨_, rfl, rfl, h13, S17⟩
theorem Z1m (k : Nat) : Zel (Z35 k) := s_parse_Parser_Fail k
def Zf3 (φ : (List Tok) → Int → Int → Option (Except (Int × Int × Int) (ByteArray × Int))) : Prop := ∀ ⦃xs3 : List Tok⦄ ⦃x6 : Int⦄ ⦃x8 : Int⦄ ⦃r : Except (Int × Int × Int) (ByteArray × Int)⦄, φ xs3 x6 x8 = some r → ∀ ⦃w0 : World⦄ ⦃h0 : Hp⦄ ⦃b1 : Nat⦄ ⦃T2 : Nat⦄ ⦃v4 : Value⦄, Sub h0 w0 → RS h0 v4 xs3 → OB w0 h0 b1 T2 [v4, .int .i64 x6] →
  Calls Tryz.prog 99 #[.pointer (some ⟨b1, 0, none⟩), .int .i64 x8] w0 fun e w1 => match r with | .ok r => ∃ v, e = .returned v ∧ ∃ h1, Stp [b1] w0 h0 w1 h1 ∧ v = .string r.1 ∧ (OB w1 h1 b1 T2 [v4, .int .i64 r.2]) | .error t => ∃ ch, e = .panicked ch ∧ Z8l 138 t.1 t.2.1 ch ∧ ∃ h1, Stp [b1] w0 h0 w1 h1 ∧ (OB w1 h1 b1 T2 [v4, .int .i64 t.2.2])
theorem s_parse_Parser_Take (k : Nat) : Zf3 (Z4e k) := by
 intro xs3 x6 x8 r HF w0 h0 b1 T2 v4 hs0 rs5 ob7
 have S0 : Stp [b1] w0 h0 w0 h0 := Stp.refl hs0 _
 have lt9 : b1 < w0.heap.size := OB.lt ob7
 refine Z4j (n := 31) Tryz.func99 rfl Tryz.ntmps99 rfl [(0, pt b1 0), (1, vi x8)] rfl <| Zb <| Z1 <| Wa rfl rfl <| Z7 <| Z6 <| Zb <| Z1 <| Wm rfl rfl ?_
 obtain ⟨r10, hr11, HF⟩ := Z8 HF
 refine Wc rfl (Ze (vs := [pt b1 0]) rfl Z7s) (Z1b _ hr11 S0.sub rs5 ob7) ?_
 rintro _ w13 ⟨h14, s15, ⟨cs16, rfl, r17⟩⟩
 have S18 := S0.trans0 s15
 have ob19 := (ob7.step0 s15)
 refine Z15 (zs := [vi 0, .string b'47, vi 0]) rfl rfl Z60 rfl S18.sub (fun w20 b21 hb22 s23 ob24 => ?_)
 have ne25 : b1 ≠ b21 := ob19.ne_new hb22
 have g26 : w0.heap.size ≤ b21 := by rw [hb22]; exact S18.size
 have S27 := S18.trans0 s23
 obtain rfl := Z62.1 (Rp.mono (s23.le) r17)
 refine Zo (vs := [vi r10.kind, .string r10.text, vi r10.pos]) rfl rfl rfl rfl Z1o (Z5 rfl (Z5 rfl (Z5 rfl Zx))) ob24 S27.sub (by simp) (ds := [vi r10.kind, .string r10.text, vi r10.pos]) rfl (fun w28 s29 ob30 => ?_)
 have S31 := S27.trans1 s29 (.inr g26)
 refine Z7 <| Z6 <| Z09 (fun E w51 => ∃ (h50 : Hp), Z9h k xs3 x6 r10 = some r ∧ E = [(0, pt b1 0), (5, pt b21 0)] ∧ Stp [b1] w0 h0 w51 h50 ∧ Hle h14 h50 ∧ OB w51 h50 b1 T2 [v4, vi x6] ∧ OB w51 h50 b21 38 [vi r10.kind, .string r10.text, vi r10.pos]) ?_ ?_
 ·rintro E w51 ⟨h50, HF, rfl, S53, le52, ob54, ob55⟩
  refine Zb ?_
  obtain ⟨A56, c57, rfl, rs58⟩ := RS.form (rs5.mono ((s15.le).trans ((s23.le).trans ((s29.le).trans le52))))
  refine Z2x (m := 13) [(0, pt b1 0), (5, pt b21 0)] [0, 5] rfl (fun i v w h => match i with | 0 => v = pt b1 0 | 1 => v = pt b1 0 | 2 => v = pt b1 0 | 3 => v = pt b1 1 | 4 => v = vi x6 | 5 => v = vi (IntKind.i64.wrap (x6 + 1)) | 6 => v = pt b1 0 | 7 => v = pt b1 0 | 8 => v = pt b1 0 | 9 => v = .slice A56 (xs3).length c57 | 10 => v = vi (xs3.length : Int) | 11 => v = vi (IntKind.i64.wrap ((xs3.length : Int) - 1)) | 12 => v = vi (imin (IntKind.i64.wrap (x6 + 1)) (IntKind.i64.wrap ((xs3.length : Int) - 1))) | _ => True) Z3f S53.sub rfl rfl rfl rfl rfl ?_ ?_ ?_
  ·intro i v w h w2 h2 hΦ hst
   match i, hΦ with
   | 0, hΦ | 1, hΦ | 2, hΦ | 3, hΦ | 4, hΦ | 5, hΦ | 6, hΦ | 7, hΦ | 8, hΦ | 9, hΦ | 10, hΦ | 11, hΦ | 12, hΦ => exact hΦ
   | i + 13, _ => exact trivial
  ·refine ⟨?_, ?_, ?_, ?_, ?_, ?_, ?_, ?_, ?_, ?_, ?_, ?_, ?_, trivial⟩
   ·intro a w59 h60 s61 hat hF
    exact Z3 hat rfl (Zu rfl) s61.sub (by exact rfl)
   ·intro a w59 h60 s61 hat hF
    exact Z3 hat rfl (Zu rfl) s61.sub (by exact rfl)
   ·intro a w59 h60 s61 hat hF
    exact Z3 (Z0 hat (hF 1 15 rfl rfl)) rfl (Zs rfl) s61.sub (by exact rfl)
   ·intro a w59 h60 s61 hat hF
    exact Z3 (Z0 hat (hF 2 16 rfl rfl)) rfl (Z2 rfl Z61) s61.sub (by exact rfl)
   ·intro a w59 h60 s61 hat hF
    have ob62 := (ob54.step0 s61)
    exact Z3 (Z0 hat (hF 3 17 rfl rfl)) rfl (Zc rfl Z0f (OB.cell ob62 (j := 1) rfl)) s61.sub (by exact rfl)
   ·intro a w59 h60 s61 hat hF
    exact Z3 (Z0 hat (hF 4 18 rfl rfl)) rfl (Z3n rfl rfl) s61.sub (by exact rfl)
   ·intro a w59 h60 s61 hat hF
    exact Z3 hat rfl (Zu rfl) s61.sub (by exact rfl)
   ·intro a w59 h60 s61 hat hF
    exact Z3 (Z0 hat (hF 6 20 rfl rfl)) rfl (Zs rfl) s61.sub (by exact rfl)
   ·intro a w59 h60 s61 hat hF
    exact Z3 (Z0 hat (hF 7 21 rfl rfl)) rfl (Z2 rfl t_field_140_0) s61.sub (by exact rfl)
   ·intro a w59 h60 s61 hat hF
    have ob63 := (ob54.step0 s61)
    exact Z3 (Z0 hat (hF 8 22 rfl rfl)) rfl (Zc rfl t_agg_34 (OB.cell ob63 (j := 0) rfl)) s61.sub (by exact rfl)
   ·intro a w59 h60 s61 hat hF
    exact Z3 (Z0 hat (hF 9 23 rfl rfl)) rfl (Z1n rfl Zfj) s61.sub (by exact rfl)
   ·intro a w59 h60 s61 hat hF
    exact Z3 (Z0 hat (hF 10 24 rfl rfl)) rfl (ov_sub rfl rfl) s61.sub (by exact rfl)
   intro a w59 h60 s61 hat hF
   exact Z3 (Z0 (Z0 hat (hF 5 19 rfl rfl)) (hF 11 25 rfl rfl)) rfl (ov_min rfl rfl) s61.sub (by exact rfl)
  intro a w59 h60 s61 hat hF
  obtain hv0 := hF 0 14 (by decide) rfl
  obtain hv1 := hF 1 15 (by decide) rfl
  obtain hv2 := hF 2 16 (by decide) rfl
  obtain hv3 := hF 3 17 (by decide) rfl
  obtain hv4 := hF 4 18 (by decide) rfl
  obtain hv5 := hF 5 19 (by decide) rfl
  obtain hv6 := hF 6 20 (by decide) rfl
  obtain hv7 := hF 7 21 (by decide) rfl
  obtain hv8 := hF 8 22 (by decide) rfl
  obtain hv9 := hF 9 23 (by decide) rfl
  obtain hv10 := hF 10 24 (by decide) rfl
  obtain hv11 := hF 11 25 (by decide) rfl
  obtain hv12 := hF 12 26 (by decide) rfl
  refine Z7z [(26, vi (imin (IntKind.i64.wrap (x6 + 1)) (IntKind.i64.wrap ((xs3.length : Int) - 1)))), (25, vi (IntKind.i64.wrap ((xs3.length : Int) - 1))), (24, vi (xs3.length : Int)), (23, .slice A56 (xs3).length c57), (22, pt b1 0), (21, pt b1 0), (20, pt b1 0), (19, vi (IntKind.i64.wrap (x6 + 1))), (18, vi x6), (17, pt b1 1), (16, pt b1 0), (15, pt b1 0), (14, pt b1 0), (0, pt b1 0), (5, pt b21 0)] (Z0 (Z0 (Z0 (Z0 (Z0 (Z0 (Z0 (Z0 (Z0 (Z0 (Z0 (Z0 (Z0 hat hv0) hv1) hv2) hv3) hv4) hv5) hv6) hv7) hv8) hv9) hv10) hv11) hv12) ?_
  have S64 := S53.trans0 s61
  refine Wv rfl (Zs rfl) <| Wv rfl (Z2 rfl Z61) ?_
  have ob65 := (ob54.step0 s61)
  refine Zo (vs := [vi (imin (IntKind.i64.wrap (x6 + 1)) (IntKind.i64.wrap ((xs3.length : Int) - 1)))]) rfl rfl rfl rfl Z1p (Z5 rfl Zx) ob65 S64.sub (by simp) (ds := [.slice A56 (xs3).length c57, vi (imin (IntKind.i64.wrap (x6 + 1)) (IntKind.i64.wrap ((xs3.length : Int) - 1)))]) rfl (fun w66 s67 ob68 => ?_)
  have S69 := S64.trans1 s67 (.inl (by simp))
  refine Z7 <| Z6 <| Zb <| Z1 <| Wv rfl (Z2 rfl Zgi) ?_
  have ob70 := ((ob55.step0 s61).step1 s67 (Ne.symm ne25))
  refine Wv rfl (Zc rfl Z2r (OB.cell ob70 (j := 1) rfl)) <| Wa rfl rfl <| Z7 <| Z6 <| Z00 <| Zt rfl rfl ?_
  obtain rfl := Option.some.inj HF
  exact ⟨_, rfl, h60, S69, rfl, ob68⟩
 intro J71
 refine Zb <| Z1 <| Wv rfl (Z2 rfl Zda) <| Wv rfl (Zc rfl Z0f (OB.cell ob30 (j := 0) rfl)) <| Wm rfl rfl <| Wv rfl (Z7e rfl rfl) <| Z7 <| Z6 <| Z17 HF rfl (fun HF => ?_) (fun HF => ?_)
 ·refine Z1 <| Wm rfl rfl ?_
  have ob33 := ((ob19.step0 s23).step1 s29 ne25)
  obtain ⟨r34, hr35, HF⟩ := Z8 HF
  rcases r34 with t36 | r37
  ·obtain rfl := Z01 HF
   refine Z0i rfl (Ze (vs := [pt b1 0]) rfl Z98) (Z1m _ hr35 S31.sub (rs5.mono ((s15.le).trans ((s23.le).trans s29.le))) ob33) ?_
   rintro ch42 w43 ⟨ht44, h45, s46⟩
   refine Zd <| Zp ?_
   have S47 := S31.trans0 s46
   have ob48 := (ob33.step0 s46)
   exact ⟨_, rfl, ht44, h45, S47, ob48⟩
  replace HF := Z0j HF
  refine Wc rfl (Ze (vs := [pt b1 0]) rfl Z98) (Z1m _ hr35 S31.sub (rs5.mono ((s15.le).trans ((s23.le).trans s29.le))) ob33) ?_
  rintro v38 w39 ⟨h40, s41, rfl⟩
  have S49 := S31.trans0 s41
  refine Z7 ?_
  have ob72 := (ob33.step0 s41)
  have ob73 := (ob30.step0 s41)
  refine Z0g [0, 5] _ rfl ?_
  exact J71 ⟨h40, HF, rfl, S49, s41.le, ob72, ob73⟩
 refine Zm ?_
 have ob74 := ((ob19.step0 s23).step1 s29 ne25)
 refine Z0g [0, 5] _ rfl ?_
 exact J71 ⟨h14, HF, rfl, S31, Hle.refl _, ob74, ob30⟩
theorem Z2w (k : Nat) : Zf3 (Z4e k) := s_parse_Parser_Take k
def Zdb (φ : Int → Int → Option Unit) : Prop := ∀ ⦃x3 : Int⦄ ⦃x7 : Int⦄ ⦃r : Unit⦄, φ x3 x7 = some r → ∀ ⦃w0 : World⦄ ⦃h0 : Hp⦄ ⦃b1 : Nat⦄ ⦃T2 : Nat⦄ ⦃b5 : Nat⦄ ⦃T6 : Nat⦄, Sub h0 w0 → OB w0 h0 b1 T2 [.int .i64 x3] → OB w0 h0 b5 T6 [.int .i64 x7] → b1 ≠ b5 →
  CallsD Tryz.prog 98 #[.pointer (some ⟨b1, 0, none⟩), .pointer (some ⟨b5, 0, none⟩)] .returning w0 fun e u w1 => u = .returning ∧ ∃ v, e = .returned v ∧ ∃ h1, Stp [] w0 h0 w1 h1 ∧ v = .tuple #[]
theorem s_parse_Source_1_ret (k : Nat) : Zdb (Z9d k) := by
 intro x3 x7 r HF w0 h0 b1 T2 b5 T6 hs0 ob4 ob8 ne9
 have S0 : Stp [] w0 h0 w0 h0 := Stp.refl hs0 _
 have lt10 : b1 < w0.heap.size := OB.lt ob4
 have lt11 : b5 < w0.heap.size := OB.lt ob8
 refine enterR (n := 15) (dd := 5) (x := .nilIface) (.inl ⟨rfl, rfl, rfl⟩) Tryz.func98 rfl Tryz.ntmps98 rfl rfl [(5, .nilIface), (0, pt b1 0), (1, pt b5 0)] rfl <| Z0p <| Zb <| Z1 <| Wv rfl (ov_eqlNN rfl t_imeth_20) <| Z7 <| Z6 <| WC.condT rfl <| Z1 <| Wa rfl rfl <| Z7 <| Z0a <| Zb0 rfl ?_
 obtain rfl := Option.some.inj HF
 exact ⟨_, rfl, h0, S0, rfl⟩
theorem ok_parse_Source_1_ret (k : Nat) : Zdb (Z9d k) := s_parse_Source_1_ret k
def C_lexis_isDigit (φ : Int → Option Bool) : Prop := ∀ ⦃x1 : Int⦄ ⦃r : Bool⦄, φ x1 = some r → ∀ ⦃w0 : World⦄ ⦃h0 : Hp⦄, Sub h0 w0 →
  Calls Tryz.prog 72 #[.int .u8 x1] w0 fun e w1 => ∃ v, e = .returned v ∧ ∃ h1, Stp [] w0 h0 w1 h1 ∧ v = .bool r
theorem s_lexis_isDigit (k : Nat) : C_lexis_isDigit (Z7i k) := by
 intro x1 r HF w0 h0  hs0 
 have S0 : Stp [] w0 h0 w0 h0 := Stp.refl hs0 _
 refine Z4j (n := 9) Tryz.func72 rfl Tryz.ntmps72 rfl [(0, .int .u8 x1)] rfl <| Zb <| Z1 <| Wa rfl rfl <| Z7 <| Z6 <| Zb <| Z1 <| Wm rfl rfl <| Wv rfl (ov_geq rfl rfl) <| Wm rfl rfl <| Z3g 5 HF rfl (fun HF => ?_) (fun HF => ?_)
 ·refine Wm rfl rfl <| Wv rfl (ov_leq rfl rfl) <| Wv rfl (Zh rfl rfl) <| Wa rfl rfl <| Z7 <| Z6 <| Z00 <| Zt rfl rfl ?_
  obtain rfl := Option.some.inj HF
  exact ⟨_, rfl, h0, S0, rfl⟩
 refine Wp rfl <| Wp rfl <| Wv rfl (Zg rfl rfl) <| Wa rfl rfl <| Z7 <| Z6 <| Z00 <| Zt rfl rfl ?_
 obtain rfl := Option.some.inj HF
 exact ⟨_, rfl, h0, S0, rfl⟩
theorem Z9z (k : Nat) : C_lexis_isDigit (Z7i k) := s_lexis_isDigit k
def Z75 (φ : ByteArray → Int → Int → Option ByteArray) : Prop := ∀ ⦃x3 : ByteArray⦄ ⦃x4 : Int⦄ ⦃x6 : Int⦄ ⦃r : ByteArray⦄, φ x3 x4 x6 = some r → ∀ ⦃w0 : World⦄ ⦃h0 : Hp⦄ ⦃b1 : Nat⦄ ⦃T2 : Nat⦄, Sub h0 w0 → OB w0 h0 b1 T2 [.string x3, .int .i64 x4] →
  Calls Tryz.prog 125 #[.pointer (some ⟨b1, 0, none⟩), .int .i64 x6, .func (.func 72) #[] #[]] w0 fun e w1 => ∃ v, e = .returned v ∧ ∃ h1, Stp [] w0 h0 w1 h1 ∧ v = .string r
theorem s_lexis_scanner_span (k : Nat) (IH : ∀ j, j ≤ k → Z75 (Z23 j).lexis_scanner_span) : Z75 (Zdi k (Z23 k)) := by
 intro x3 x4 x6 r HF w0 h0 b1 T2 hs0 ob5
 have S0 : Stp [] w0 h0 w0 h0 := Stp.refl hs0 _
 have lt7 : b1 < w0.heap.size := OB.lt ob5
 refine Z4j (n := 49) Tryz.func125 rfl Tryz.ntmps125 rfl [(0, pt b1 0), (1, vi x6), (2, .func (.func 72) #[] #[])] rfl <| Zb <| Z1 <| Wa rfl rfl <| Z7 <| Z6 <| Zb <| Z2x (m := 11) [(0, pt b1 0), (1, vi x6), (2, .func (.func 72) #[] #[])] [0, 1, 2] rfl (fun i v w h => match i with | 0 => v = pt b1 0 | 1 => v = pt b1 0 | 2 => v = pt b1 1 | 3 => v = vi x4 | 4 => v = vi x6 | 5 => v = vi (IntKind.i64.wrap (x4 + x6)) | 6 => v = pt b1 0 | 7 => v = pt b1 0 | 8 => v = pt b1 0 | 9 => v = .string x3 | 10 => v = vi (x3.size : Int) | _ => True) Z3f S0.sub rfl rfl rfl rfl rfl ?_ ?_ ?_
 ·intro i v w h w2 h2 hΦ hst
  match i, hΦ with
  | 0, hΦ | 1, hΦ | 2, hΦ | 3, hΦ | 4, hΦ | 5, hΦ | 6, hΦ | 7, hΦ | 8, hΦ | 9, hΦ | 10, hΦ => exact hΦ
  | i + 11, _ => exact trivial
 ·refine ⟨?_, ?_, ?_, ?_, ?_, ?_, ?_, ?_, ?_, ?_, ?_, trivial⟩
  ·intro a w8 h9 s10 hat hF
   exact Z3 hat rfl (Zu rfl) s10.sub (by exact rfl)
  ·intro a w8 h9 s10 hat hF
   exact Z3 (Z0 hat (hF 0 8 rfl rfl)) rfl (Zs rfl) s10.sub (by exact rfl)
  ·intro a w8 h9 s10 hat hF
   exact Z3 (Z0 hat (hF 1 9 rfl rfl)) rfl (Z2 rfl Z0q) s10.sub (by exact rfl)
  ·intro a w8 h9 s10 hat hF
   have ob11 := (ob5.step0 s10)
   exact Z3 (Z0 hat (hF 2 10 rfl rfl)) rfl (Zc rfl Z0f (OB.cell ob11 (j := 1) rfl)) s10.sub (by exact rfl)
  ·intro a w8 h9 s10 hat hF
   exact Z3 hat rfl (Zu rfl) s10.sub (by exact rfl)
  ·intro a w8 h9 s10 hat hF
   exact Z3 (Z0 (Z0 hat (hF 3 11 rfl rfl)) (hF 4 12 rfl rfl)) rfl (Z3n rfl rfl) s10.sub (by exact rfl)
  ·intro a w8 h9 s10 hat hF
   exact Z3 hat rfl (Zu rfl) s10.sub (by exact rfl)
  ·intro a w8 h9 s10 hat hF
   exact Z3 (Z0 hat (hF 6 14 rfl rfl)) rfl (Zs rfl) s10.sub (by exact rfl)
  ·intro a w8 h9 s10 hat hF
   exact Z3 (Z0 hat (hF 7 15 rfl rfl)) rfl (Z2 rfl Z1w) s10.sub (by exact rfl)
  ·intro a w8 h9 s10 hat hF
   have ob12 := (ob5.step0 s10)
   exact Z3 (Z0 hat (hF 8 16 rfl rfl)) rfl (Zc rfl Z2r (OB.cell ob12 (j := 0) rfl)) s10.sub (by exact rfl)
  intro a w8 h9 s10 hat hF
  exact Z3 (Z0 hat (hF 9 17 rfl rfl)) rfl (Z95 rfl Z08) s10.sub (by exact rfl)
 intro a w8 h9 s10 hat hF
 obtain hv0 := hF 0 8 (by decide) rfl
 obtain hv1 := hF 1 9 (by decide) rfl
 obtain hv2 := hF 2 10 (by decide) rfl
 obtain hv3 := hF 3 11 (by decide) rfl
 obtain hv4 := hF 4 12 (by decide) rfl
 obtain hv5 := hF 5 13 (by decide) rfl
 obtain hv6 := hF 6 14 (by decide) rfl
 obtain hv7 := hF 7 15 (by decide) rfl
 obtain hv8 := hF 8 16 (by decide) rfl
 obtain hv9 := hF 9 17 (by decide) rfl
 obtain hv10 := hF 10 18 (by decide) rfl
 refine Z7z [(18, vi (x3.size : Int)), (17, .string x3), (16, pt b1 0), (15, pt b1 0), (14, pt b1 0), (13, vi (IntKind.i64.wrap (x4 + x6))), (12, vi x6), (11, vi x4), (10, pt b1 1), (9, pt b1 0), (8, pt b1 0), (0, pt b1 0), (1, vi x6), (2, .func (.func 72) #[] #[])] (Z0 (Z0 (Z0 (Z0 (Z0 (Z0 (Z0 (Z0 (Z0 (Z0 (Z0 hat hv0) hv1) hv2) hv3) hv4) hv5) hv6) hv7) hv8) hv9) hv10) ?_
 have S13 := S0.trans0 s10
 refine Wv rfl (ov_min rfl rfl) <| Wa rfl rfl <| Z7 <| Z6 <| Zb <| Z0p <| Z4m <| Z7y [0, 2, 7] [(0, pt b1 0), (2, .func (.func 72) #[] #[]), (7, vi (imin (IntKind.i64.wrap (x4 + x6)) (x3.size : Int)))] rfl <| Z4k (K := k) (fun j E w15 => ∃ (h14 : Hp) (x18 : Int), (Z23 j).lexis_scanner_span_l1 x3 x4 x18 = some r ∧ E = [(0, pt b1 0), (2, .func (.func 72) #[] #[]), (7, vi x18)] ∧ Stp [] w0 h0 w15 h14 ∧ Hle h9 h14 ∧ OB w15 h14 b1 T2 [.string x3, vi x4]) ?_ ?_ (j := k) (Nat.le_refl _) ?_
 ·rintro E w15 ⟨_, _, HF, _⟩; cases HF
 ·rintro j20 hj22 IHL21 E w15 ⟨h14, x18, HF, rfl, S17, le16, ob19⟩
  refine Z09 (fun E w51 => ∃ (h50 : Hp), Zcf j20 (Z23 j20) x3 x4 x18 = some r ∧ E = [(0, pt b1 0), (2, .func (.func 72) #[] #[]), (7, vi x18)] ∧ Stp [] w0 h0 w51 h50 ∧ Hle h14 h50 ∧ OB w51 h50 b1 T2 [.string x3, vi x4]) ?_ ?_
  ·rintro E w51 ⟨h50, HF, rfl, S53, le52, ob54⟩
   refine Z0p <| Z1 <| Wm rfl rfl <| Wv rfl (Z3n rfl rfl) <| Wa rfl rfl <| Z7 <| Z0a <| Z2c <| Z7y [0, 2, 7] [(0, pt b1 0), (2, .func (.func 72) #[] #[]), (7, vi (IntKind.i64.wrap (x18 + 1)))] rfl ?_
   exact IHL21 j20 (Nat.le_refl _) _ _ ⟨h50, IntKind.i64.wrap (x18 + 1), HF, rfl, S53, (le16).trans le52, ob54⟩
  intro J55
  refine Z09 (fun E w34 => ∃ (h33 : Hp) (x37 : Bool), Z8t j20 (Z23 j20) x3 x4 x18 x37 = some r ∧ E = [(0, pt b1 0), (2, .func (.func 72) #[] #[]), (7, vi x18), (36, .bool x37)] ∧ Stp [] w0 h0 w34 h33 ∧ Hle h14 h33 ∧ OB w34 h33 b1 T2 [.string x3, vi x4]) ?_ ?_
  ·rintro E w34 ⟨h33, x37, HF, rfl, S36, le35, ob38⟩
   refine Z17 HF rfl (fun HF => ?_) (fun HF => ?_)
   ·refine Zm <| Z0g [0, 2, 7] _ rfl ?_
    exact J55 ⟨h33, HF, rfl, S36, le35, ob38⟩
   refine Z4x <| Zz <| Zz <| Z1a <| Z6 <| Zb <| Z2x (m := 9) [(0, pt b1 0), (7, vi x18)] [0, 7] rfl (fun i v w h => match i with | 0 => v = pt b1 0 | 1 => v = pt b1 0 | 2 => v = pt b1 0 | 3 => v = .string x3 | 4 => v = pt b1 0 | 5 => v = pt b1 0 | 6 => v = pt b1 1 | 7 => v = vi x4 | 8 => v = vi x18 | _ => True) Z3f S36.sub rfl rfl rfl rfl rfl ?_ ?_ ?_
   ·intro i v w h w2 h2 hΦ hst
    match i, hΦ with
    | 0, hΦ | 1, hΦ | 2, hΦ | 3, hΦ | 4, hΦ | 5, hΦ | 6, hΦ | 7, hΦ | 8, hΦ => exact hΦ
    | i + 9, _ => exact trivial
   ·refine ⟨?_, ?_, ?_, ?_, ?_, ?_, ?_, ?_, ?_, trivial⟩
    ·intro a w40 h41 s42 hat hF
     exact Z3 hat rfl (Zu rfl) s42.sub (by exact rfl)
    ·intro a w40 h41 s42 hat hF
     exact Z3 (Z0 hat (hF 0 39 rfl rfl)) rfl (Zs rfl) s42.sub (by exact rfl)
    ·intro a w40 h41 s42 hat hF
     exact Z3 (Z0 hat (hF 1 40 rfl rfl)) rfl (Z2 rfl Z1w) s42.sub (by exact rfl)
    ·intro a w40 h41 s42 hat hF
     have ob43 := (ob38.step0 s42)
     exact Z3 (Z0 hat (hF 2 41 rfl rfl)) rfl (Zc rfl Z2r (OB.cell ob43 (j := 0) rfl)) s42.sub (by exact rfl)
    ·intro a w40 h41 s42 hat hF
     exact Z3 hat rfl (Zu rfl) s42.sub (by exact rfl)
    ·intro a w40 h41 s42 hat hF
     exact Z3 (Z0 hat (hF 4 43 rfl rfl)) rfl (Zs rfl) s42.sub (by exact rfl)
    ·intro a w40 h41 s42 hat hF
     exact Z3 (Z0 hat (hF 5 44 rfl rfl)) rfl (Z2 rfl Z0q) s42.sub (by exact rfl)
    ·intro a w40 h41 s42 hat hF
     have ob44 := (ob38.step0 s42)
     exact Z3 (Z0 hat (hF 6 45 rfl rfl)) rfl (Zc rfl Z0f (OB.cell ob44 (j := 1) rfl)) s42.sub (by exact rfl)
    intro a w40 h41 s42 hat hF
    exact Z3 hat rfl (Zu rfl) s42.sub (by exact rfl)
   intro a w40 h41 s42 hat hF
   obtain hv0 := hF 0 39 (by decide) rfl
   obtain hv1 := hF 1 40 (by decide) rfl
   obtain hv2 := hF 2 41 (by decide) rfl
   obtain hv3 := hF 3 42 (by decide) rfl
   obtain hv4 := hF 4 43 (by decide) rfl
   obtain hv5 := hF 5 44 (by decide) rfl
   obtain hv6 := hF 6 45 (by decide) rfl
   obtain hv7 := hF 7 46 (by decide) rfl
   obtain hv8 := hF 8 47 (by decide) rfl
   refine Z7z [(47, vi x18), (46, vi x4), (45, pt b1 1), (44, pt b1 0), (43, pt b1 0), (42, .string x3), (41, pt b1 0), (40, pt b1 0), (39, pt b1 0), (0, pt b1 0), (7, vi x18)] (Z0 (Z0 (Z0 (Z0 (Z0 (Z0 (Z0 (Z0 (Z0 hat hv0) hv1) hv2) hv3) hv4) hv5) hv6) hv7) hv8) ?_
   have S45 := S36.trans0 s42
   obtain ⟨t46, ht47, HF⟩ := Z8 HF
   refine Wv rfl (ov_sliceSLH rfl rfl rfl Z08 ht47) <| Wa rfl rfl <| Z7 <| Z6 <| Z00 <| Zt rfl rfl ?_
   obtain rfl := Option.some.inj HF
   exact ⟨_, rfl, h41, S45, rfl⟩
  intro J48
  refine Z1 <| Wm rfl rfl <| Wm rfl rfl <| Wv rfl (Zs rfl) <| Wv rfl (Z2 rfl Z1w) <| Wv rfl (Zc rfl Z2r (OB.cell ob19 (j := 0) rfl)) <| Wv rfl (Z95 rfl Z08) <| Wv rfl (Zbt rfl rfl) <| Wm rfl rfl <| Z3g 27 HF rfl (fun HF => ?_) (fun HF => ?_)
  ·refine Wm rfl rfl <| Wm rfl rfl <| Wv rfl (Zs rfl) <| Wv rfl (Z2 rfl Z1w) <| Wv rfl (Zc rfl Z2r (OB.cell ob19 (j := 0) rfl)) <| Wm rfl rfl ?_
   obtain ⟨c24, hc25, HF⟩ := Z8 HF
   refine Wv rfl (Z93 rfl rfl Z08 hc25) ?_
   obtain ⟨r26, hr27, HF⟩ := Z8 HF
   refine Wc rfl (oc_val (vs := [.int .u8 c24]) (caps := []) rfl rfl t_ent_72) (Z9z _ hr27 S17.sub) ?_
   rintro _ w29 ⟨h30, s31, rfl⟩
   have S32 := S17.trans0 s31
   refine Wv rfl (Zh rfl rfl) <| Z7 ?_
   have ob49 := (ob19.step0 s31)
   refine Z0g [0, 2, 7, 36] _ rfl ?_
   exact J48 ⟨h30, r26, HF, rfl, S32, s31.le, ob49⟩
  refine Wp rfl <| Wp rfl <| Wp rfl <| Wp rfl <| Wp rfl <| Wp rfl <| Wp rfl <| Wp rfl <| Wv rfl (Zg rfl rfl) <| Z7 <| Z0g [0, 2, 7, 36] _ rfl ?_
  exact J48 ⟨h14, false, HF, rfl, S17, Hle.refl _, ob19⟩
 have ob56 := (ob5.step0 s10)
 exact ⟨h9, imin (IntKind.i64.wrap (x4 + x6)) (x3.size : Int), HF, rfl, S13, Hle.refl _, ob56⟩
theorem all_lexis_scanner_span : ∀ k j, j ≤ k → Z75 (Z23 j).lexis_scanner_span := by
  intro k
  induction k with
  | zero =>
    intro j hj
    obtain rfl : j = 0 := by omega
    exact (fun _ _ _ _ => by intro h; cases h)
  | succ k ih =>
    intro j hj
    by_cases h : j ≤ k
    · exact ih j h
    · obtain rfl : j = k + 1 := by omega
      exact s_lexis_scanner_span k ih
theorem Zck (k : Nat) : Z75 (Z9e k) := (all_lexis_scanner_span k k (Nat.le_refl _))
def C_lexis_token (φ : Int → ByteArray → Bool → Option (Tok × Int)) : Prop := ∀ ⦃x1 : Int⦄ ⦃x2 : ByteArray⦄ ⦃x3 : Bool⦄ ⦃r : Tok × Int⦄, φ x1 x2 x3 = some r → ∀ ⦃w0 : World⦄ ⦃h0 : Hp⦄, Sub h0 w0 →
  Calls Tryz.prog 123 #[.int .i64 x1, .string x2, .bool x3] w0 fun e w1 => ∃ v, e = .returned v ∧ ∃ h1, Stp [] w0 h0 w1 h1 ∧ (∃ u0 u1 : Value, v = .tuple #[u0, u1] ∧ (∃ cs : List Value, u0 = .agg cs.toArray ∧ Rp.R h1 r.1 cs) ∧ (u1 = .int .i64 r.2))
theorem s_lexis_token (k : Nat) : C_lexis_token (Z6y k) := by
 intro x1 x2 x3 r HF w0 h0  hs0 
 have S0 : Stp [] w0 h0 w0 h0 := Stp.refl hs0 _
 refine Z4j (n := 16) Tryz.func123 rfl Tryz.ntmps123 rfl [(0, vi x1), (1, .string x2), (2, .bool x3)] rfl <| Zb <| Z1 <| Z15 (zs := [vi 0, .string b'47, vi 0]) rfl rfl Z60 rfl S0.sub (fun w4 b5 hb6 s7 ob8 => ?_)
 have g9 : w0.heap.size ≤ b5 := by rw [hb6]; exact S0.size
 have S10 := S0.trans0 s7
 refine Wa rfl rfl <| Z7 <| Z6 <| Z09 (fun E w17 => ∃ (h16 : Hp), lexis_token_j1 k x1 x2 = some r ∧ E = [(0, vi x1), (1, .string x2), (6, pt b5 0)] ∧ Stp [] w0 h0 w17 h16 ∧ Hle h0 h16 ∧ OB w17 h16 b5 38 [vi 0, .string b'47, vi 0]) ?_ ?_
 ·rintro E w17 ⟨h16, HF, rfl, S19, le18, ob20⟩
  refine Zb <| Z1 <| Wm rfl rfl <| Wm rfl rfl <| Wv rfl (Z38 (vs := [(0, vi x1), (1, .string x2)]) (cs := [vi x1, .string x2, vi 0]) rfl t_places_38 Z60 rfl) <| Wm rfl rfl <| Wv rfl (Z95 rfl Z08) <| Zo (vs := [vi x1, .string x2, vi 0]) rfl rfl rfl rfl Z1o (Z5 rfl (Z5 rfl (Z5 rfl Zx))) ob20 S19.sub (by simp) (ds := [vi x1, .string x2, vi 0]) rfl (fun w21 s22 ob23 => ?_)
  have S24 := S19.trans1 s22 (.inr g9)
  refine Wa rfl rfl <| Z7 <| Z6 <| Z00 <| Zgy (rg2 rfl (Z5k rfl (Z11 (cs := [vi x1, .string x2, vi 0]) Z80 Z1o (OB.cells ob23 0 rfl))) (ri_tmp rfl)) ?_
  obtain rfl := Option.some.inj HF
  exact ⟨_, rfl, h16, S24, _, _, rfl, ⟨_, rfl, (Z62.2 rfl)⟩, rfl⟩
 intro J25
 refine Zb <| Z1 <| Wm rfl rfl <| Wv rfl (Z3c rfl) <| Z7 <| Z6 <| Z17 HF rfl (fun HF => ?_) (fun HF => ?_)
 ·refine Zb <| Z1 <| Wv rfl (Z38 (vs := []) (cs := [vi 0, .string b'47, vi 0]) rfl t_places_38 Z60 rfl) <| Zo (vs := [vi 0, .string b'47, vi 0]) rfl rfl rfl rfl Z1o (Z5 rfl (Z5 rfl (Z5 rfl Zx))) ob8 S10.sub (by simp) (ds := [vi 0, .string b'47, vi 0]) rfl (fun w12 s13 ob14 => ?_)
  have S15 := S10.trans1 s13 (.inr g9)
  refine Wa rfl rfl <| Z7 <| Z6 <| Z00 <| Zi <| Zgy (rg2 rfl (Z5k rfl (Z11 (cs := [vi 0, .string b'47, vi 0]) Z80 Z1o (OB.cells ob14 0 rfl))) (ri_tmp rfl)) ?_
  obtain rfl := Option.some.inj HF
  exact ⟨_, rfl, h0, S15, _, _, rfl, ⟨_, rfl, (Z62.2 rfl)⟩, rfl⟩
 refine Zm <| Z0g [0, 1, 6] _ rfl ?_
 exact J25 ⟨h0, HF, rfl, S10, Hle.refl _, ob8⟩
theorem Z8k (k : Nat) : C_lexis_token (Z6y k) := s_lexis_token k
def C_strconv_Itoa (φ : Int → Option ByteArray) : Prop := ∀ ⦃x1 : Int⦄ ⦃r : ByteArray⦄, φ x1 = some r → ∀ ⦃w0 : World⦄ ⦃h0 : Hp⦄, Sub h0 w0 →
  Calls Tryz.prog 151 #[.int .i64 x1] w0 fun e w1 => ∃ v, e = .returned v ∧ ∃ h1, Stp [] w0 h0 w1 h1 ∧ v = .string r
theorem ok_strconv_Itoa (k : Nat) : C_strconv_Itoa (Zgt k) := by
  intro x1 r HF w0 h0 hs0
  simp only [Zgt] at HF
  obtain ⟨hn, HF⟩ := Zdu HF
  cases HF
  rw [itoaB_eq hn]
  refine (Tryz.strconv_Itoa x1 hn.1 hn.2 w0 (glob_pow hs0)).mono ?_
  rintro e w1 ⟨rfl, k, os, rfl⟩
  exact ⟨_, rfl, h0, Stp.of_below hs0 (grow_below k os), rfl⟩
def C_strconv_Atoi (φ : ByteArray → Option (Int × Bool)) : Prop := ∀ ⦃x1 : ByteArray⦄ ⦃r : Int × Bool⦄, φ x1 = some r → ∀ ⦃w0 : World⦄ ⦃h0 : Hp⦄, Sub h0 w0 →
  Calls Tryz.prog 150 #[.string x1] w0 fun e w1 => ∃ v, e = .returned v ∧ ∃ h1, Stp [] w0 h0 w1 h1 ∧ (∃ u0 u1 : Value, v = .tuple #[u0, u1] ∧ (u0 = .int .i64 r.1) ∧ (ErrV u1 r.2))
theorem Zfa (k : Nat) : C_strconv_Atoi (Z9x k) := by
  intro x1 r HF w0 h0 hs0
  simp only [Z9x] at HF
  obtain ⟨hn, HF⟩ := Zdu HF
  rcases hE : Lib.atoiAll x1.data.toList with v | _ | _
  · rw [atoiR_ok hE] at HF; cases HF
    refine (Any.strconv_Atoi_ok Tryz.laysC172 x1 (Nat.le_trans hn (by decide)) v hE w0).mono ?_
    rintro e w1 ⟨rfl, hw⟩
    exact ⟨_, rfl, h0, atoi_stp hs0 hw, _, _, rfl, rfl, rfl⟩
  · rw [atoiR_bad (fun v q => by rw [hE] at q; cases q) (by rw [hE]; intro q; cases q)] at HF; cases HF
    obtain ⟨te, pe, hv⟩ := hs0.glob.g4
    refine (Any.strconv_Atoi_syntax Tryz.laysC172 x1 hn hE _ w0 (hs0.at_ _ _ _ hv) (.inr ⟨te, pe, rfl⟩)).mono ?_
    rintro e w1 ⟨N, rfl, _, _, hb⟩
    exact ⟨_, rfl, h0, Stp.of_below hs0 hb, _, _, rfl, rfl, ⟨_, _, rfl⟩⟩
  · rw [atoiR_range hE] at HF; cases HF
    obtain ⟨te, pe, hv⟩ := hs0.glob.g5
    refine (Any.strconv_Atoi_range Tryz.laysC172 x1 hn hE _ w0 (hs0.at_ _ _ _ hv) (.inr ⟨te, pe, rfl⟩)).mono ?_
    rintro e w1 ⟨N, rfl, _, _, hb⟩
    exact ⟨_, rfl, h0, Stp.of_below hs0 hb, _, _, rfl, rfl, ⟨_, _, rfl⟩⟩
def Zgx (φ : ByteArray → Int → Option Bool) : Prop := ∀ ⦃x1 : ByteArray⦄ ⦃x2 : Int⦄ ⦃r : Bool⦄, φ x1 x2 = some r → ∀ ⦃w0 : World⦄ ⦃h0 : Hp⦄, Sub h0 w0 →
  Calls Tryz.prog 90 #[.string x1, .int .i64 x2] w0 fun e w1 => ∃ v, e = .returned v ∧ ∃ h1, Stp [] w0 h0 w1 h1 ∧ v = .bool r
theorem s_lexis_isNumeral (k : Nat) : Zgx (Z7c k) := by
 intro x1 x2 r HF w0 h0  hs0 
 have S0 : Stp [] w0 h0 w0 h0 := Stp.refl hs0 _
 refine Z4j (n := 29) Tryz.func90 rfl Tryz.ntmps90 rfl [(0, .string x1), (1, vi x2)] rfl <| Zb <| Z1 <| Wa rfl rfl <| Z7 <| Z6 <| Zb <| Z1 <| Wm rfl rfl ?_
 obtain ⟨r3, hr4, HF⟩ := Z8 HF
 refine Wc rfl (Ze (vs := [.string x1]) rfl t_ent_150) (Zfa _ hr4 S0.sub) ?_
 rintro _ w6 ⟨h7, s8, _, v9, rfl, rfl, ev10⟩
 have S11 := S0.trans0 s8
 refine Wm rfl rfl <| Wv rfl (Z0c rfl rfl) <| Wv rfl (Z0c rfl rfl) <| Wa rfl rfl <| Wa rfl rfl <| Z7 <| Z6 <| Zb <| Z1 <| Wm rfl rfl <| Wv rfl (ov_eqlE rfl ev10 t_imeth_133) <| Wm rfl rfl <| Z3g 14 HF rfl (fun HF => ?_) (fun HF => ?_)
 ·refine Wm rfl rfl ?_
  obtain ⟨r13, hr14, HF⟩ := Z8 HF
  refine Wc rfl (Ze (vs := [vi r3.1]) rfl t_ent_151) (ok_strconv_Itoa _ hr14 S11.sub) ?_
  rintro _ w16 ⟨h17, s18, rfl⟩
  have S19 := S11.trans0 s18
  refine Wm rfl rfl <| Wv rfl (Z0d rfl rfl) <| Wv rfl (Zh rfl rfl) <| Wm rfl rfl <| Z3g 20 HF rfl (fun HF => ?_) (fun HF => ?_)
  ·refine Wm rfl rfl <| Wv rfl (ov_geq rfl rfl) <| Wv rfl (Zh rfl rfl) <| Wm rfl rfl <| Z3g 24 HF rfl (fun HF => ?_) (fun HF => ?_)
   ·refine Wm rfl rfl <| Wm rfl rfl <| Wv rfl (ov_leq rfl rfl) <| Wv rfl (Zh rfl rfl) <| Wa rfl rfl <| Z7 <| Z6 <| Z00 <| Zt rfl rfl ?_
    obtain rfl := Option.some.inj HF
    exact ⟨_, rfl, h17, S19, rfl⟩
   refine Wp rfl <| Wp rfl <| Wp rfl <| Wv rfl (Zg rfl rfl) <| Wa rfl rfl <| Z7 <| Z6 <| Z00 <| Zt rfl rfl ?_
   obtain rfl := Option.some.inj HF
   exact ⟨_, rfl, h17, S19, rfl⟩
  refine Wp rfl <| Wp rfl <| Wv rfl (Zg rfl rfl) <| Wm rfl rfl <| Wp rfl <| Wp rfl <| Wp rfl <| Wv rfl (Zg rfl rfl) <| Wa rfl rfl <| Z7 <| Z6 <| Z00 <| Zt rfl rfl ?_
  obtain rfl := Option.some.inj HF
  exact ⟨_, rfl, h17, S19, rfl⟩
 refine Wp rfl <| Wp rfl <| Wp rfl <| Wp rfl <| Wv rfl (Zg rfl rfl) <| Wm rfl rfl <| Wp rfl <| Wp rfl <| Wv rfl (Zg rfl rfl) <| Wm rfl rfl <| Wp rfl <| Wp rfl <| Wp rfl <| Wv rfl (Zg rfl rfl) <| Wa rfl rfl <| Z7 <| Z6 <| Z00 <| Zt rfl rfl ?_
 obtain rfl := Option.some.inj HF
 exact ⟨_, rfl, h7, S11, rfl⟩
theorem Zb7 (k : Nat) : Zgx (Z7c k) := s_lexis_isNumeral k
def Zaw (φ : ByteArray → Int → Option (Tok × Int)) : Prop := ∀ ⦃x3 : ByteArray⦄ ⦃x4 : Int⦄ ⦃r : Tok × Int⦄, φ x3 x4 = some r → ∀ ⦃w0 : World⦄ ⦃h0 : Hp⦄ ⦃b1 : Nat⦄ ⦃T2 : Nat⦄, Sub h0 w0 → OB w0 h0 b1 T2 [.string x3, .int .i64 x4] →
  Calls Tryz.prog 73 #[.pointer (some ⟨b1, 0, none⟩)] w0 fun e w1 => ∃ v, e = .returned v ∧ ∃ h1, Stp [] w0 h0 w1 h1 ∧ (∃ u0 u1 : Value, v = .tuple #[u0, u1] ∧ (∃ cs : List Value, u0 = .agg cs.toArray ∧ Rp.R h1 r.1 cs) ∧ (u1 = .int .i64 r.2))
theorem Zhm (k : Nat) : Zaw (Z7m k) := by
 intro x3 x4 r HF w0 h0 b1 T2 hs0 ob5
 have S0 : Stp [] w0 h0 w0 h0 := Stp.refl hs0 _
 have lt6 : b1 < w0.heap.size := OB.lt ob5
 refine Z4j (n := 13) Tryz.func73 rfl Tryz.ntmps73 rfl [(0, pt b1 0)] rfl <| Zb <| Z1 <| Z15 (zs := [vi 0, .string b'47, vi 0]) rfl rfl Z60 rfl S0.sub (fun w7 b8 hb9 s10 ob11 => ?_)
 have ne12 : b1 ≠ b8 := ob5.ne_new hb9
 have g13 : w0.heap.size ≤ b8 := by rw [hb9]; exact S0.size
 have S14 := S0.trans0 s10
 refine Wa rfl rfl <| Z7 <| Z6 <| Zb <| Z1 <| Wm rfl rfl ?_
 have ob15 := (ob5.step0 s10)
 obtain ⟨r16, hr17, HF⟩ := Z8 HF
 refine Wc rfl (Ze (vs := [pt b1 0, vi 0, .func (.func 72) #[] #[]]) rfl t_ent_125) (Zck _ hr17 S14.sub ob15) ?_
 rintro _ w19 ⟨h20, s21, rfl⟩
 have S22 := S14.trans0 s21
 refine Wa rfl rfl <| Z7 <| Z6 <| Zb <| Z1 <| Wm rfl rfl <| Wm rfl rfl ?_
 obtain ⟨r23, hr24, HF⟩ := Z8 HF
 refine Wc rfl (Ze (vs := [.string r16, vi 2147483647]) rfl t_ent_90) (Zb7 _ hr24 S22.sub) ?_
 rintro _ w26 ⟨h27, s28, rfl⟩
 have S29 := S22.trans0 s28
 obtain ⟨r30, hr31, HF⟩ := Z8 HF
 refine Wc rfl (Ze (vs := [vi 2, .string r16, .bool r23]) rfl t_ent_123) (Z8k _ hr31 S29.sub) ?_
 rintro _ w33 ⟨h34, s35, _, _, rfl, ⟨cs36, rfl, r37⟩, rfl⟩
 have S38 := S29.trans0 s35
 refine Wv rfl (Z0c rfl rfl) <| Wv rfl (Z0c rfl rfl) ?_
 have ob39 := (((ob11.step0 s21).step0 s28).step0 s35)
 obtain rfl := Z62.1 r37
 refine Zo (vs := [vi r30.1.kind, .string r30.1.text, vi r30.1.pos]) rfl rfl rfl rfl Z1o (Z5 rfl (Z5 rfl (Z5 rfl Zx))) ob39 S38.sub (by simp) (ds := [vi r30.1.kind, .string r30.1.text, vi r30.1.pos]) rfl (fun w40 s41 ob42 => ?_)
 have S43 := S38.trans1 s41 (.inr g13)
 refine Wa rfl rfl <| Z7 <| Z6 <| Z00 <| Zgy (rg2 rfl (Z5k rfl (Z11 (cs := [vi r30.1.kind, .string r30.1.text, vi r30.1.pos]) Z80 Z1o (OB.cells ob42 0 rfl))) (ri_tmp rfl)) ?_
 obtain rfl := Option.some.inj HF
 exact ⟨_, rfl, h34, S43, _, _, rfl, ⟨_, rfl, (Z62.2 rfl)⟩, rfl⟩
theorem Zg1 (k : Nat) : Zaw (Z7m k) := Zhm k
end Go.Proofs.YtkodnhngllfemaaGreatDoor
