import Derived.Test.YtkodnhngllfemaaGreatDoorE0
import Derived.Test.YtkodnhngllfemaaGreatDoorGP0
set_option linter.unusedVariables false
set_option linter.unusedSimpArgs false
set_option maxRecDepth 20000
set_option maxHeartbeats 4000000
namespace Go.Proofs.YtkodnhngllfemaaGreatDoor
open Go
def C_lexis_isSign (φ : ByteArray → Option Bool) : Prop := ∀ ⦃x1 : ByteArray⦄ ⦃r : Bool⦄, φ x1 = some r → ∀ ⦃w0 : World⦄ ⦃h0 : Hp⦄, Sub h0 w0 →
  Calls Tryz.prog 92 #[.string x1] w0 fun e w1 => ∃ v, e = .returned v ∧ ∃ h1, Stp [] w0 h0 w1 h1 ∧ v = .bool r
theorem s_lexis_isSign (k : Nat) : C_lexis_isSign (Zgd k) := by
 intro x1 r HF w0 h0  hs0 
 have S0 : Stp [] w0 h0 w0 h0 := Stp.refl hs0 _
 refine Z4j (n := 27) Tryz.func92 rfl Tryz.ntmps92 rfl [(0, .string x1)] rfl <| Zb <| Z1 <| Wa rfl rfl <| Z7 <| Z6 <| Z09 (fun E w31 => ∃ (h30 : Hp), lexis_isSign_j2 k  = some r ∧ E = [] ∧ Stp [] w0 h0 w31 h30 ∧ Hle h0 h30) ?_ ?_
 ·rintro E w31 ⟨h30, HF, rfl, S33, le32⟩
  refine Zb <| Z1 <| Wa rfl rfl <| Z7 <| Z6 <| Z00 <| Zt rfl rfl ?_
  obtain rfl := Option.some.inj HF
  exact ⟨_, rfl, h30, S33, rfl⟩
 intro J34
 refine Zb <| Z1 <| Wm rfl rfl <| Z7 <| Z6 <| Z0p <| Z09 (fun E w24 => ∃ (h23 : Hp) (x27 : Bool), Z0z k x27 = some r ∧ E = [(4, .bool x27)] ∧ Stp [] w0 h0 w24 h23 ∧ Hle h0 h23) ?_ ?_
 ·rintro E w24 ⟨h23, x27, HF, rfl, S26, le25⟩
  refine Z17 HF rfl (fun HF => ?_) (fun HF => ?_)
  ·refine Zb <| Z1 <| Wa rfl rfl <| Z7 <| Z6 <| Z00 <| Zy <| Zi <| Zt rfl rfl ?_
   obtain rfl := Option.some.inj HF
   exact ⟨_, rfl, h23, S26, rfl⟩
  refine Zm <| Z0a <| Z0g [] _ rfl ?_
  exact J34 ⟨h23, HF, rfl, S26, le25⟩
 intro J29
 refine Zb <| Z1 <| Wv rfl (Z0d rfl rfl) <| Wa rfl rfl <| Z7 <| Z6 <| Z17 HF rfl (fun HF => ?_) (fun HF => ?_)
 ·refine Zm <| Z0g [4] _ rfl ?_
  exact J29 ⟨h0, bEq x1 b'25, HF, rfl, S0, Hle.refl _⟩
 refine Zb <| Z1 <| Wv rfl (Z0d rfl rfl) <| Wa rfl rfl <| Z7 <| Z6 <| Z17 HF rfl (fun HF => ?_) (fun HF => ?_)
 ·refine Zm <| Z0g [4] _ rfl ?_
  exact J29 ⟨h0, bEq x1 b'26, HF, rfl, S0, Hle.refl _⟩
 refine Zb <| Z1 <| Wv rfl (Z0d rfl rfl) <| Wa rfl rfl <| Z7 <| Z6 <| Z17 HF rfl (fun HF => ?_) (fun HF => ?_)
 ·refine Zm <| Z0g [4] _ rfl ?_
  exact J29 ⟨h0, bEq x1 b'42, HF, rfl, S0, Hle.refl _⟩
 refine Zb <| Z1 <| Wv rfl (Z0d rfl rfl) <| Wa rfl rfl <| Z7 <| Z6 <| Z17 HF rfl (fun HF => ?_) (fun HF => ?_)
 ·refine Zm <| Z0g [4] _ rfl ?_
  exact J29 ⟨h0, bEq x1 b'43, HF, rfl, S0, Hle.refl _⟩
 refine Zb <| Z1 <| Wv rfl (Z0d rfl rfl) <| Wa rfl rfl <| Z7 <| Z6 <| Z17 HF rfl (fun HF => ?_) (fun HF => ?_)
 ·refine Zm <| Z0g [4] _ rfl ?_
  exact J29 ⟨h0, bEq x1 b'29, HF, rfl, S0, Hle.refl _⟩
 refine Zb <| Z1 <| Wv rfl (Z0d rfl rfl) <| Wa rfl rfl <| Z7 <| Z6 <| Z17 HF rfl (fun HF => ?_) (fun HF => ?_)
 ·refine Zm <| Z0g [4] _ rfl ?_
  exact J29 ⟨h0, bEq x1 b'35, HF, rfl, S0, Hle.refl _⟩
 refine Zb <| Z1 <| Wv rfl (Z0d rfl rfl) <| Wa rfl rfl <| Z7 <| Z6 <| Z17 HF rfl (fun HF => ?_) (fun HF => ?_)
 ·refine Zm <| Z0g [4] _ rfl ?_
  exact J29 ⟨h0, bEq x1 b'34, HF, rfl, S0, Hle.refl _⟩
 refine Zb <| Z1 <| Wv rfl (Z0d rfl rfl) <| Wa rfl rfl <| Z7 <| Z6 <| Z17 HF rfl (fun HF => ?_) (fun HF => ?_)
 ·refine Zm <| Z0g [4] _ rfl ?_
  exact J29 ⟨h0, bEq x1 b'31, HF, rfl, S0, Hle.refl _⟩
 refine Zb <| Z1 <| Wv rfl (Z0d rfl rfl) <| Wa rfl rfl <| Z7 <| Z6 <| Z17 HF rfl (fun HF => ?_) (fun HF => ?_)
 ·refine Zm <| Z0g [4] _ rfl ?_
  exact J29 ⟨h0, bEq x1 b'33, HF, rfl, S0, Hle.refl _⟩
 refine Zb <| Z1 <| Wv rfl (Z0d rfl rfl) <| Wa rfl rfl <| Z7 <| Z6 <| Z17 HF rfl (fun HF => ?_) (fun HF => ?_)
 ·refine Zm <| Z0g [4] _ rfl ?_
  exact J29 ⟨h0, bEq x1 b'39, HF, rfl, S0, Hle.refl _⟩
 refine Zb <| Z1 <| Wv rfl (Z0d rfl rfl) <| Wa rfl rfl <| Z7 <| Z6 <| Z17 HF rfl (fun HF => ?_) (fun HF => ?_)
 ·refine Zm <| Z0g [4] _ rfl ?_
  exact J29 ⟨h0, bEq x1 b'37, HF, rfl, S0, Hle.refl _⟩
 refine Zb <| Z1 <| Wv rfl (Z0d rfl rfl) <| Wa rfl rfl <| Z7 <| Z6 <| Z17 HF rfl (fun HF => ?_) (fun HF => ?_)
 ·refine Zm <| Z0g [4] _ rfl ?_
  exact J29 ⟨h0, bEq x1 b'38, HF, rfl, S0, Hle.refl _⟩
 refine Zb <| Z1 <| Wv rfl (Z0d rfl rfl) <| Wa rfl rfl <| Z7 <| Z6 <| Z17 HF rfl (fun HF => ?_) (fun HF => ?_)
 ·refine Zm <| Z0g [4] _ rfl ?_
  exact J29 ⟨h0, bEq x1 b'36, HF, rfl, S0, Hle.refl _⟩
 refine Zb <| Z1 <| Wv rfl (Z0d rfl rfl) <| Wa rfl rfl <| Z7 <| Z6 <| Z17 HF rfl (fun HF => ?_) (fun HF => ?_)
 ·refine Zm <| Z0g [4] _ rfl ?_
  exact J29 ⟨h0, bEq x1 b'41, HF, rfl, S0, Hle.refl _⟩
 refine Zb <| Z1 <| Wv rfl (Z0d rfl rfl) <| Wa rfl rfl <| Z7 <| Z6 <| Z17 HF rfl (fun HF => ?_) (fun HF => ?_)
 ·refine Zm <| Z0g [4] _ rfl ?_
  exact J29 ⟨h0, bEq x1 b'40, HF, rfl, S0, Hle.refl _⟩
 refine Zb <| Z1 <| Wv rfl (Z0d rfl rfl) <| Wa rfl rfl <| Z7 <| Z6 <| Z17 HF rfl (fun HF => ?_) (fun HF => ?_)
 ·refine Zm <| Z0g [4] _ rfl ?_
  exact J29 ⟨h0, bEq x1 b'28, HF, rfl, S0, Hle.refl _⟩
 refine Zb <| Z1 <| Wv rfl (Z0d rfl rfl) <| Wa rfl rfl <| Z7 <| Z6 <| Z17 HF rfl (fun HF => ?_) (fun HF => ?_)
 ·refine Zm <| Z0g [4] _ rfl ?_
  exact J29 ⟨h0, bEq x1 b'30, HF, rfl, S0, Hle.refl _⟩
 refine Zb <| Z1 <| Wv rfl (Z0d rfl rfl) <| Wa rfl rfl <| Z7 <| Z6 <| Z17 HF rfl (fun HF => ?_) (fun HF => ?_)
 ·refine Zm <| Z0g [4] _ rfl ?_
  exact J29 ⟨h0, bEq x1 b'27, HF, rfl, S0, Hle.refl _⟩
 refine Zb <| Z1 <| Wv rfl (Z0d rfl rfl) <| Wa rfl rfl <| Z7 <| Z6 <| Z17 HF rfl (fun HF => ?_) (fun HF => ?_)
 ·refine Zm <| Z0g [4] _ rfl ?_
  exact J29 ⟨h0, bEq x1 b'32, HF, rfl, S0, Hle.refl _⟩
 refine Zb <| Z1 <| Wv rfl (Z0d rfl rfl) <| Wa rfl rfl <| Z7 <| Z6 <| Z17 HF rfl (fun HF => ?_) (fun HF => ?_)
 ·refine Zm <| Z0g [4] _ rfl ?_
  exact J29 ⟨h0, bEq x1 (⟨#[38]⟩ : ByteArray), HF, rfl, S0, Hle.refl _⟩
 refine Zb <| Z1 <| Wv rfl (Z0d rfl rfl) <| Wa rfl rfl <| Z7 <| Z6 <| Z17 HF rfl (fun HF => ?_) (fun HF => ?_)
 ·refine Zm <| Z0g [4] _ rfl ?_
  exact J29 ⟨h0, bEq x1 (⟨#[124]⟩ : ByteArray), HF, rfl, S0, Hle.refl _⟩
 refine Z1 <| Wv rfl (Z0d rfl rfl) <| Wa rfl rfl <| Z7 <| Z0g [4] _ rfl ?_
 exact J29 ⟨h0, bEq x1 (⟨#[45, 62]⟩ : ByteArray), HF, rfl, S0, Hle.refl _⟩
theorem ok_lexis_isSign (k : Nat) : C_lexis_isSign (Zgd k) := s_lexis_isSign k
def Z76 (φ : ByteArray → Int → Option (Tok × Int)) : Prop := ∀ ⦃x3 : ByteArray⦄ ⦃x4 : Int⦄ ⦃r : Tok × Int⦄, φ x3 x4 = some r → ∀ ⦃w0 : World⦄ ⦃h0 : Hp⦄ ⦃b1 : Nat⦄ ⦃T2 : Nat⦄, Sub h0 w0 → OB w0 h0 b1 T2 [.string x3, .int .i64 x4] →
  Calls Tryz.prog 67 #[.pointer (some ⟨b1, 0, none⟩)] w0 fun e w1 => ∃ v, e = .returned v ∧ ∃ h1, Stp [] w0 h0 w1 h1 ∧ (∃ u0 u1 : Value, v = .tuple #[u0, u1] ∧ (∃ cs : List Value, u0 = .agg cs.toArray ∧ Rp.R h1 r.1 cs) ∧ (u1 = .int .i64 r.2))
theorem s_lexis_scanner_sign (k : Nat) (IH : ∀ j, j ≤ k → Z76 (Z22 j).lexis_scanner_sign) : Z76 (Ze3 k (Z22 k)) := by
 intro x3 x4 r HF w0 h0 b1 T2 hs0 ob5
 have S0 : Stp [] w0 h0 w0 h0 := Stp.refl hs0 _
 have lt6 : b1 < w0.heap.size := OB.lt ob5
 refine Z4j (n := 43) Tryz.func67 rfl Tryz.ntmps67 rfl [(0, pt b1 0)] rfl <| Zb <| Z1 <| Z15 (zs := [vi 0, .string b'47, vi 0]) rfl rfl Z60 rfl S0.sub (fun w7 b8 hb9 s10 ob11 => ?_)
 have ne12 : b1 ≠ b8 := ob5.ne_new hb9
 have g13 : w0.heap.size ≤ b8 := by rw [hb9]; exact S0.size
 have S14 := S0.trans0 s10
 refine Wa rfl rfl <| Z7 <| Z6 <| Zb <| Zb <| Z2x (m := 9) [(0, pt b1 0), (2, pt b8 0)] [0, 2] rfl (fun i v w h => match i with | 0 => v = pt b1 0 | 1 => v = pt b1 0 | 2 => v = pt b1 0 | 3 => v = .string x3 | 4 => v = vi (x3.size : Int) | 5 => v = pt b1 0 | 6 => v = pt b1 0 | 7 => v = pt b1 1 | 8 => v = vi x4 | _ => True) Z3f S14.sub rfl rfl rfl rfl rfl ?_ ?_ ?_
 ·intro i v w h w2 h2 hΦ hst
  match i, hΦ with
  | 0, hΦ | 1, hΦ | 2, hΦ | 3, hΦ | 4, hΦ | 5, hΦ | 6, hΦ | 7, hΦ | 8, hΦ => exact hΦ
  | i + 9, _ => exact trivial
 ·refine ⟨?_, ?_, ?_, ?_, ?_, ?_, ?_, ?_, ?_, trivial⟩
  ·intro a w15 h16 s17 hat hF
   exact Z3 hat rfl (Zu rfl) s17.sub (by exact rfl)
  ·intro a w15 h16 s17 hat hF
   exact Z3 (Z0 hat (hF 0 6 rfl rfl)) rfl (Zs rfl) s17.sub (by exact rfl)
  ·intro a w15 h16 s17 hat hF
   exact Z3 (Z0 hat (hF 1 7 rfl rfl)) rfl (Z2 rfl Z1w) s17.sub (by exact rfl)
  ·intro a w15 h16 s17 hat hF
   have ob18 := ((ob5.step0 s10).step0 s17)
   exact Z3 (Z0 hat (hF 2 8 rfl rfl)) rfl (Zc rfl Z2r (OB.cell ob18 (j := 0) rfl)) s17.sub (by exact rfl)
  ·intro a w15 h16 s17 hat hF
   exact Z3 (Z0 hat (hF 3 9 rfl rfl)) rfl (Z95 rfl Z08) s17.sub (by exact rfl)
  ·intro a w15 h16 s17 hat hF
   exact Z3 hat rfl (Zu rfl) s17.sub (by exact rfl)
  ·intro a w15 h16 s17 hat hF
   exact Z3 (Z0 hat (hF 5 11 rfl rfl)) rfl (Zs rfl) s17.sub (by exact rfl)
  ·intro a w15 h16 s17 hat hF
   exact Z3 (Z0 hat (hF 6 12 rfl rfl)) rfl (Z2 rfl Z0q) s17.sub (by exact rfl)
  intro a w15 h16 s17 hat hF
  have ob19 := ((ob5.step0 s10).step0 s17)
  exact Z3 (Z0 hat (hF 7 13 rfl rfl)) rfl (Zc rfl Z0f (OB.cell ob19 (j := 1) rfl)) s17.sub (by exact rfl)
 intro a w15 h16 s17 hat hF
 obtain hv0 := hF 0 6 (by decide) rfl
 obtain hv1 := hF 1 7 (by decide) rfl
 obtain hv2 := hF 2 8 (by decide) rfl
 obtain hv3 := hF 3 9 (by decide) rfl
 obtain hv4 := hF 4 10 (by decide) rfl
 obtain hv5 := hF 5 11 (by decide) rfl
 obtain hv6 := hF 6 12 (by decide) rfl
 obtain hv7 := hF 7 13 (by decide) rfl
 obtain hv8 := hF 8 14 (by decide) rfl
 refine Z7z [(14, vi x4), (13, pt b1 1), (12, pt b1 0), (11, pt b1 0), (10, vi (x3.size : Int)), (9, .string x3), (8, pt b1 0), (7, pt b1 0), (6, pt b1 0), (0, pt b1 0), (2, pt b8 0)] (Z0 (Z0 (Z0 (Z0 (Z0 (Z0 (Z0 (Z0 (Z0 hat hv0) hv1) hv2) hv3) hv4) hv5) hv6) hv7) hv8) ?_
 have S20 := S14.trans0 s17
 refine Wv rfl (ov_sub rfl rfl) <| Wv rfl (ov_min rfl rfl) <| Wa rfl rfl <| Z7 <| Z6 <| Z0p <| Z4m <| Z7y [0, 2, 4] [(0, pt b1 0), (2, pt b8 0), (4, vi (imin 2 (IntKind.i64.wrap ((x3.size : Int) - x4))))] rfl <| Z4k (K := k) (fun j E w22 => ∃ (h21 : Hp) (x25 : Int), (Z22 j).lexis_scanner_sign_l1 x3 x4 x25 = some r ∧ E = [(0, pt b1 0), (2, pt b8 0), (4, vi x25)] ∧ Stp [] w0 h0 w22 h21 ∧ Hle h16 h21 ∧ OB w22 h21 b1 T2 [.string x3, vi x4] ∧ OB w22 h21 b8 38 [vi 0, .string b'47, vi 0]) ?_ ?_ (j := k) (Nat.le_refl _) ?_
 ·rintro E w22 ⟨_, _, HF, _⟩; cases HF
 ·rintro j28 hj30 IHL29 E w22 ⟨h21, x25, HF, rfl, S24, le23, ob26, ob27⟩
  refine Z09 (fun E w37 => ∃ (h36 : Hp), Zca j28 (Z22 j28) x3 x4 x25 = some r ∧ E = [(0, pt b1 0), (2, pt b8 0), (4, vi x25)] ∧ Stp [] w0 h0 w37 h36 ∧ Hle h21 h36 ∧ OB w37 h36 b1 T2 [.string x3, vi x4] ∧ OB w37 h36 b8 38 [vi 0, .string b'47, vi 0]) ?_ ?_
  ·rintro E w37 ⟨h36, HF, rfl, S39, le38, ob40, ob41⟩
   refine Z09 (fun E w74 => ∃ (h73 : Hp), Zce j28 (Z22 j28) x3 x4 x25 = some r ∧ E = [(0, pt b1 0), (2, pt b8 0), (4, vi x25)] ∧ Stp [] w0 h0 w74 h73 ∧ Hle h36 h73 ∧ OB w74 h73 b1 T2 [.string x3, vi x4] ∧ OB w74 h73 b8 38 [vi 0, .string b'47, vi 0]) ?_ ?_
   ·rintro E w74 ⟨h73, HF, rfl, S76, le75, ob77, ob78⟩
    refine Z1 <| Wm rfl rfl <| Wv rfl (ov_sub rfl rfl) <| Wa rfl rfl <| Z7 <| Z2c <| Z7y [0, 2, 4] [(0, pt b1 0), (2, pt b8 0), (4, vi (IntKind.i64.wrap (x25 - 1)))] rfl ?_
    exact IHL29 j28 (Nat.le_refl _) _ _ ⟨h73, IntKind.i64.wrap (x25 - 1), HF, rfl, S76, (le23).trans ((le38).trans le75), ob77, ob78⟩
   intro J79
   refine Z0p <| Zb <| Z2x (m := 14) [(0, pt b1 0), (2, pt b8 0), (4, vi x25)] [0, 2, 4] rfl (fun i v w h => match i with | 0 => v = pt b1 0 | 1 => v = pt b1 0 | 2 => v = pt b1 0 | 3 => v = .string x3 | 4 => v = pt b1 0 | 5 => v = pt b1 0 | 6 => v = pt b1 1 | 7 => v = vi x4 | 8 => v = pt b1 0 | 9 => v = pt b1 0 | 10 => v = pt b1 1 | 11 => v = vi x4 | 12 => v = vi x25 | 13 => v = vi (IntKind.i64.wrap (x4 + x25)) | _ => True) Z3f S39.sub rfl rfl rfl rfl rfl ?_ ?_ ?_
   ·intro i v w h w2 h2 hΦ hst
    match i, hΦ with
    | 0, hΦ | 1, hΦ | 2, hΦ | 3, hΦ | 4, hΦ | 5, hΦ | 6, hΦ | 7, hΦ | 8, hΦ | 9, hΦ | 10, hΦ | 11, hΦ | 12, hΦ | 13, hΦ => exact hΦ
    | i + 14, _ => exact trivial
   ·refine ⟨?_, ?_, ?_, ?_, ?_, ?_, ?_, ?_, ?_, ?_, ?_, ?_, ?_, ?_, trivial⟩
    ·intro a w42 h43 s44 hat hF
     exact Z3 hat rfl (Zu rfl) s44.sub (by exact rfl)
    ·intro a w42 h43 s44 hat hF
     exact Z3 (Z0 hat (hF 0 21 rfl rfl)) rfl (Zs rfl) s44.sub (by exact rfl)
    ·intro a w42 h43 s44 hat hF
     exact Z3 (Z0 hat (hF 1 22 rfl rfl)) rfl (Z2 rfl Z1w) s44.sub (by exact rfl)
    ·intro a w42 h43 s44 hat hF
     have ob45 := (ob40.step0 s44)
     exact Z3 (Z0 hat (hF 2 23 rfl rfl)) rfl (Zc rfl Z2r (OB.cell ob45 (j := 0) rfl)) s44.sub (by exact rfl)
    ·intro a w42 h43 s44 hat hF
     exact Z3 hat rfl (Zu rfl) s44.sub (by exact rfl)
    ·intro a w42 h43 s44 hat hF
     exact Z3 (Z0 hat (hF 4 25 rfl rfl)) rfl (Zs rfl) s44.sub (by exact rfl)
    ·intro a w42 h43 s44 hat hF
     exact Z3 (Z0 hat (hF 5 26 rfl rfl)) rfl (Z2 rfl Z0q) s44.sub (by exact rfl)
    ·intro a w42 h43 s44 hat hF
     have ob46 := (ob40.step0 s44)
     exact Z3 (Z0 hat (hF 6 27 rfl rfl)) rfl (Zc rfl Z0f (OB.cell ob46 (j := 1) rfl)) s44.sub (by exact rfl)
    ·intro a w42 h43 s44 hat hF
     exact Z3 hat rfl (Zu rfl) s44.sub (by exact rfl)
    ·intro a w42 h43 s44 hat hF
     exact Z3 (Z0 hat (hF 8 29 rfl rfl)) rfl (Zs rfl) s44.sub (by exact rfl)
    ·intro a w42 h43 s44 hat hF
     exact Z3 (Z0 hat (hF 9 30 rfl rfl)) rfl (Z2 rfl Z0q) s44.sub (by exact rfl)
    ·intro a w42 h43 s44 hat hF
     have ob47 := (ob40.step0 s44)
     exact Z3 (Z0 hat (hF 10 31 rfl rfl)) rfl (Zc rfl Z0f (OB.cell ob47 (j := 1) rfl)) s44.sub (by exact rfl)
    ·intro a w42 h43 s44 hat hF
     exact Z3 hat rfl (Zu rfl) s44.sub (by exact rfl)
    intro a w42 h43 s44 hat hF
    exact Z3 (Z0 (Z0 hat (hF 11 32 rfl rfl)) (hF 12 33 rfl rfl)) rfl (Z3n rfl rfl) s44.sub (by exact rfl)
   intro a w42 h43 s44 hat hF
   obtain hv0 := hF 0 21 (by decide) rfl
   obtain hv1 := hF 1 22 (by decide) rfl
   obtain hv2 := hF 2 23 (by decide) rfl
   obtain hv3 := hF 3 24 (by decide) rfl
   obtain hv4 := hF 4 25 (by decide) rfl
   obtain hv5 := hF 5 26 (by decide) rfl
   obtain hv6 := hF 6 27 (by decide) rfl
   obtain hv7 := hF 7 28 (by decide) rfl
   obtain hv8 := hF 8 29 (by decide) rfl
   obtain hv9 := hF 9 30 (by decide) rfl
   obtain hv10 := hF 10 31 (by decide) rfl
   obtain hv11 := hF 11 32 (by decide) rfl
   obtain hv12 := hF 12 33 (by decide) rfl
   obtain hv13 := hF 13 34 (by decide) rfl
   refine Z7z [(34, vi (IntKind.i64.wrap (x4 + x25))), (33, vi x25), (32, vi x4), (31, pt b1 1), (30, pt b1 0), (29, pt b1 0), (28, vi x4), (27, pt b1 1), (26, pt b1 0), (25, pt b1 0), (24, .string x3), (23, pt b1 0), (22, pt b1 0), (21, pt b1 0), (0, pt b1 0), (2, pt b8 0), (4, vi x25)] (Z0 (Z0 (Z0 (Z0 (Z0 (Z0 (Z0 (Z0 (Z0 (Z0 (Z0 (Z0 (Z0 (Z0 hat hv0) hv1) hv2) hv3) hv4) hv5) hv6) hv7) hv8) hv9) hv10) hv11) hv12) hv13) ?_
   have S48 := S39.trans0 s44
   obtain ⟨t49, ht50, HF⟩ := Z8 HF
   refine Wv rfl (ov_sliceSLH rfl rfl rfl Z08 ht50) <| Wa rfl rfl <| Z7 <| Z6 <| Zb <| Z1 <| Wm rfl rfl ?_
   obtain ⟨r51, hr52, HF⟩ := Z8 HF
   refine Wc rfl (Ze (vs := [.string t49]) rfl t_ent_92) (ok_lexis_isSign _ hr52 S48.sub) ?_
   rintro _ w54 ⟨h55, s56, rfl⟩
   have S57 := S48.trans0 s56
   refine Z7 <| Z6 <| Z17 HF rfl (fun HF => ?_) (fun HF => ?_)
   ·refine Zb <| Z1 <| Wm rfl rfl ?_
    obtain ⟨r59, hr60, HF⟩ := Z8 HF
    refine Wc rfl (Ze (vs := [vi 4, .string t49, .bool true]) rfl t_ent_123) (Z8k _ hr60 S57.sub) ?_
    rintro _ w62 ⟨h63, s64, _, _, rfl, ⟨cs65, rfl, r66⟩, rfl⟩
    have S67 := S57.trans0 s64
    refine Wv rfl (Z0c rfl rfl) <| Wv rfl (Z0c rfl rfl) ?_
    have ob68 := (((ob41.step0 s44).step0 s56).step0 s64)
    obtain rfl := Z62.1 r66
    refine Zo (vs := [vi r59.1.kind, .string r59.1.text, vi r59.1.pos]) rfl rfl rfl rfl Z1o (Z5 rfl (Z5 rfl (Z5 rfl Zx))) ob68 S67.sub (by simp) (ds := [vi r59.1.kind, .string r59.1.text, vi r59.1.pos]) rfl (fun w69 s70 ob71 => ?_)
    have S72 := S67.trans1 s70 (.inr g13)
    refine Wa rfl rfl <| Z7 <| Z6 <| Z00 <| Zy <| Zi <| Zi <| Zy <| Zi <| Zgy (rg2 rfl (Z5k rfl (Z11 (cs := [vi r59.1.kind, .string r59.1.text, vi r59.1.pos]) Z80 Z1o (OB.cells ob71 0 rfl))) (ri_tmp rfl)) ?_
    obtain rfl := Option.some.inj HF
    exact ⟨_, rfl, h63, S72, _, _, rfl, ⟨_, rfl, (Z62.2 rfl)⟩, rfl⟩
   refine Zm <| Z0a ?_
   have ob80 := ((ob40.step0 s44).step0 s56)
   have ob81 := ((ob41.step0 s44).step0 s56)
   refine Z0g [0, 2, 4] _ rfl ?_
   exact J79 ⟨h55, HF, rfl, S57, (s44.le).trans s56.le, ob80, ob81⟩
  intro J82
  refine Zb <| Z1 <| Wm rfl rfl <| Wv rfl (Ze7 rfl rfl) <| Z7 <| Z6 <| Z17 HF rfl (fun HF => ?_) (fun HF => ?_)
  ·refine Zm <| Z0g [0, 2, 4] _ rfl ?_
   exact J82 ⟨h21, HF, rfl, S24, Hle.refl _, ob26, ob27⟩
  refine Z4x <| Zz <| Zz <| Z1a <| Z6 <| Zb <| Z1 <| Wv rfl (Z38 (vs := []) (cs := [vi 0, .string b'47, vi 0]) rfl t_places_38 Z60 rfl) <| Zo (vs := [vi 0, .string b'47, vi 0]) rfl rfl rfl rfl Z1o (Z5 rfl (Z5 rfl (Z5 rfl Zx))) ob27 S24.sub (by simp) (ds := [vi 0, .string b'47, vi 0]) rfl (fun w32 s33 ob34 => ?_)
  have S35 := S24.trans1 s33 (.inr g13)
  refine Wa rfl rfl <| Z7 <| Z6 <| Z00 <| Zgy (rg2 rfl (Z5k rfl (Z11 (cs := [vi 0, .string b'47, vi 0]) Z80 Z1o (OB.cells ob34 0 rfl))) (ri_tmp rfl)) ?_
  obtain rfl := Option.some.inj HF
  exact ⟨_, rfl, h21, S35, _, _, rfl, ⟨_, rfl, (Z62.2 rfl)⟩, rfl⟩
 have ob83 := ((ob5.step0 s10).step0 s17)
 have ob84 := (ob11.step0 s17)
 exact ⟨h16, imin 2 (IntKind.i64.wrap ((x3.size : Int) - x4)), HF, rfl, S20, Hle.refl _, ob83, ob84⟩
theorem all_lexis_scanner_sign : ∀ k j, j ≤ k → Z76 (Z22 j).lexis_scanner_sign := by
  intro k
  induction k with
  | zero =>
    intro j hj
    obtain rfl : j = 0 := by omega
    exact (fun _ _ _ => by intro h; cases h)
  | succ k ih =>
    intro j hj
    by_cases h : j ≤ k
    · exact ih j h
    · obtain rfl : j = k + 1 := by omega
      exact s_lexis_scanner_sign k ih
theorem ok_lexis_scanner_sign (k : Nat) : Z76 (Zdq k) := (all_lexis_scanner_sign k k (Nat.le_refl _))
def C_lexis_isLetter (φ : Int → Option Bool) : Prop := ∀ ⦃x1 : Int⦄ ⦃r : Bool⦄, φ x1 = some r → ∀ ⦃w0 : World⦄ ⦃h0 : Hp⦄, Sub h0 w0 →
  Calls Tryz.prog 70 #[.int .u8 x1] w0 fun e w1 => ∃ v, e = .returned v ∧ ∃ h1, Stp [] w0 h0 w1 h1 ∧ v = .bool r
theorem s_lexis_isLetter (k : Nat) : C_lexis_isLetter (Z6n k) := by
 intro x1 r HF w0 h0  hs0 
 have S0 : Stp [] w0 h0 w0 h0 := Stp.refl hs0 _
 refine Z4j (n := 9) Tryz.func70 rfl Tryz.ntmps70 rfl [(0, .int .u8 x1)] rfl <| Zb <| Z1 <| Wa rfl rfl <| Z7 <| Z6 <| Zb <| Z1 <| Wm rfl rfl <| Wv rfl (ov_geq rfl rfl) <| Wm rfl rfl <| Z3g 5 HF rfl (fun HF => ?_) (fun HF => ?_)
 ·refine Wm rfl rfl <| Wv rfl (ov_leq rfl rfl) <| Wv rfl (Zh rfl rfl) <| Wa rfl rfl <| Z7 <| Z6 <| Z00 <| Zt rfl rfl ?_
  obtain rfl := Option.some.inj HF
  exact ⟨_, rfl, h0, S0, rfl⟩
 refine Wp rfl <| Wp rfl <| Wv rfl (Zg rfl rfl) <| Wa rfl rfl <| Z7 <| Z6 <| Z00 <| Zt rfl rfl ?_
 obtain rfl := Option.some.inj HF
 exact ⟨_, rfl, h0, S0, rfl⟩
theorem Z97 (k : Nat) : C_lexis_isLetter (Z6n k) := s_lexis_isLetter k
def C_lexis_isPart (φ : Int → Option Bool) : Prop := ∀ ⦃x1 : Int⦄ ⦃r : Bool⦄, φ x1 = some r → ∀ ⦃w0 : World⦄ ⦃h0 : Hp⦄, Sub h0 w0 →
  Calls Tryz.prog 126 #[.int .u8 x1] w0 fun e w1 => ∃ v, e = .returned v ∧ ∃ h1, Stp [] w0 h0 w1 h1 ∧ v = .bool r
theorem s_lexis_isPart (k : Nat) : C_lexis_isPart (Zcx k) := by
 intro x1 r HF w0 h0  hs0 
 have S0 : Stp [] w0 h0 w0 h0 := Stp.refl hs0 _
 refine Z4j (n := 13) Tryz.func126 rfl Tryz.ntmps126 rfl [(0, .int .u8 x1)] rfl <| Zb <| Z1 <| Wa rfl rfl <| Z7 <| Z6 <| Zb <| Z1 <| Wm rfl rfl ?_
 obtain ⟨r2, hr3, HF⟩ := Z8 HF
 refine Wc rfl (Ze (vs := [.int .u8 x1]) rfl t_ent_70) (Z97 _ hr3 S0.sub) ?_
 rintro _ w5 ⟨h6, s7, rfl⟩
 have S8 := S0.trans0 s7
 refine Wm rfl rfl <| Z3g 5 HF rfl (fun HF => ?_) (fun HF => ?_)
 ·refine Wp rfl <| Wp rfl <| Wv rfl (Zh rfl rfl) <| Wm rfl rfl <| Wp rfl <| Wp rfl <| Wv rfl (Zh rfl rfl) <| Wa rfl rfl <| Z7 <| Z6 <| Z00 <| Zt rfl rfl ?_
  obtain rfl := Option.some.inj HF
  exact ⟨_, rfl, h6, S8, rfl⟩
 refine Wm rfl rfl ?_
 obtain ⟨r10, hr11, HF⟩ := Z8 HF
 refine Wc rfl (Ze (vs := [.int .u8 x1]) rfl t_ent_72) (Z9z _ hr11 S8.sub) ?_
 rintro _ w13 ⟨h14, s15, rfl⟩
 have S16 := S8.trans0 s15
 refine Wv rfl (Zg rfl rfl) <| Wm rfl rfl <| Z3g 9 HF rfl (fun HF => ?_) (fun HF => ?_)
 ·refine Wp rfl <| Wp rfl <| Wv rfl (Zh rfl rfl) <| Wa rfl rfl <| Z7 <| Z6 <| Z00 <| Zt rfl rfl ?_
  obtain rfl := Option.some.inj HF
  exact ⟨_, rfl, h14, S16, rfl⟩
 refine Wm rfl rfl <| Wv rfl (Z4n rfl rfl) <| Wv rfl (Zg rfl rfl) <| Wa rfl rfl <| Z7 <| Z6 <| Z00 <| Zt rfl rfl ?_
 obtain rfl := Option.some.inj HF
 exact ⟨_, rfl, h14, S16, rfl⟩
theorem ok_lexis_isPart (k : Nat) : C_lexis_isPart (Zcx k) := s_lexis_isPart k
def Z5j (φ : ByteArray → Int → Int → Option ByteArray) : Prop := ∀ ⦃x3 : ByteArray⦄ ⦃x4 : Int⦄ ⦃x6 : Int⦄ ⦃r : ByteArray⦄, φ x3 x4 x6 = some r → ∀ ⦃w0 : World⦄ ⦃h0 : Hp⦄ ⦃b1 : Nat⦄ ⦃T2 : Nat⦄, Sub h0 w0 → OB w0 h0 b1 T2 [.string x3, .int .i64 x4] →
  Calls Tryz.prog 125 #[.pointer (some ⟨b1, 0, none⟩), .int .i64 x6, .func (.func 126) #[] #[]] w0 fun e w1 => ∃ v, e = .returned v ∧ ∃ h1, Stp [] w0 h0 w1 h1 ∧ v = .string r
theorem Zhj (k : Nat) (IH : ∀ j, j ≤ k → Z5j (Z1j j).lexis_scanner_span_v1) : Z5j (Zap k (Z1j k)) := by
 intro x3 x4 x6 r HF w0 h0 b1 T2 hs0 ob5
 have S0 : Stp [] w0 h0 w0 h0 := Stp.refl hs0 _
 have lt7 : b1 < w0.heap.size := OB.lt ob5
 refine Z4j (n := 49) Tryz.func125 rfl Tryz.ntmps125 rfl [(0, pt b1 0), (1, vi x6), (2, .func (.func 126) #[] #[])] rfl <| Zb <| Z1 <| Wa rfl rfl <| Z7 <| Z6 <| Zb <| Z2x (m := 11) [(0, pt b1 0), (1, vi x6), (2, .func (.func 126) #[] #[])] [0, 1, 2] rfl (fun i v w h => match i with | 0 => v = pt b1 0 | 1 => v = pt b1 0 | 2 => v = pt b1 1 | 3 => v = vi x4 | 4 => v = vi x6 | 5 => v = vi (IntKind.i64.wrap (x4 + x6)) | 6 => v = pt b1 0 | 7 => v = pt b1 0 | 8 => v = pt b1 0 | 9 => v = .string x3 | 10 => v = vi (x3.size : Int) | _ => True) Z3f S0.sub rfl rfl rfl rfl rfl ?_ ?_ ?_
 ·intro i v w h w2 h2 hΦ hst
  match i, hΦ with
  | 0, hΦ | 1, hΦ | 2, hΦ | 3, hΦ | 4, hΦ | 5, hΦ | 6, hΦ | 7, hΦ | 8, hΦ | 9, hΦ | 10, hΦ => exact hΦ
  | i + 11, _ => exact trivial
 ·refine ⟨?_, ?_, ?_, ?_, ?_, ?_, ?_, ?_, ?_, ?_, ?_, trivial⟩
  ·intro a w8 h9 s10 hat hF
   exact Z3 hat rfl (Zu rfl) s10.sub (by exact rfl)
  ·intro a w8 h9 s10 hat hF
   exact Z3 (Z0 hat (hF 0 8 rfl rfl)) rfl (Zs rfl) s10.sub (by exact rfl)
  ·intro a w8 h9 s10 hat hF
   exact Z3 (Z0 hat (hF 1 9 rfl rfl)) rfl (Z2 rfl Z0q) s10.sub (by exact rfl)
  ·intro a w8 h9 s10 hat hF
   have ob11 := (ob5.step0 s10)
   exact Z3 (Z0 hat (hF 2 10 rfl rfl)) rfl (Zc rfl Z0f (OB.cell ob11 (j := 1) rfl)) s10.sub (by exact rfl)
  ·intro a w8 h9 s10 hat hF
   exact Z3 hat rfl (Zu rfl) s10.sub (by exact rfl)
  ·intro a w8 h9 s10 hat hF
   exact Z3 (Z0 (Z0 hat (hF 3 11 rfl rfl)) (hF 4 12 rfl rfl)) rfl (Z3n rfl rfl) s10.sub (by exact rfl)
  ·intro a w8 h9 s10 hat hF
   exact Z3 hat rfl (Zu rfl) s10.sub (by exact rfl)
  ·intro a w8 h9 s10 hat hF
   exact Z3 (Z0 hat (hF 6 14 rfl rfl)) rfl (Zs rfl) s10.sub (by exact rfl)
  ·intro a w8 h9 s10 hat hF
   exact Z3 (Z0 hat (hF 7 15 rfl rfl)) rfl (Z2 rfl Z1w) s10.sub (by exact rfl)
  ·intro a w8 h9 s10 hat hF
   have ob12 := (ob5.step0 s10)
   exact Z3 (Z0 hat (hF 8 16 rfl rfl)) rfl (Zc rfl Z2r (OB.cell ob12 (j := 0) rfl)) s10.sub (by exact rfl)
  intro a w8 h9 s10 hat hF
  exact Z3 (Z0 hat (hF 9 17 rfl rfl)) rfl (Z95 rfl Z08) s10.sub (by exact rfl)
 intro a w8 h9 s10 hat hF
 obtain hv0 := hF 0 8 (by decide) rfl
 obtain hv1 := hF 1 9 (by decide) rfl
 obtain hv2 := hF 2 10 (by decide) rfl
 obtain hv3 := hF 3 11 (by decide) rfl
 obtain hv4 := hF 4 12 (by decide) rfl
 obtain hv5 := hF 5 13 (by decide) rfl
 obtain hv6 := hF 6 14 (by decide) rfl
 obtain hv7 := hF 7 15 (by decide) rfl
 obtain hv8 := hF 8 16 (by decide) rfl
 obtain hv9 := hF 9 17 (by decide) rfl
 obtain hv10 := hF 10 18 (by decide) rfl
 refine Z7z [(18, vi (x3.size : Int)), (17, .string x3), (16, pt b1 0), (15, pt b1 0), (14, pt b1 0), (13, vi (IntKind.i64.wrap (x4 + x6))), (12, vi x6), (11, vi x4), (10, pt b1 1), (9, pt b1 0), (8, pt b1 0), (0, pt b1 0), (1, vi x6), (2, .func (.func 126) #[] #[])] (Z0 (Z0 (Z0 (Z0 (Z0 (Z0 (Z0 (Z0 (Z0 (Z0 (Z0 hat hv0) hv1) hv2) hv3) hv4) hv5) hv6) hv7) hv8) hv9) hv10) ?_
 have S13 := S0.trans0 s10
 refine Wv rfl (ov_min rfl rfl) <| Wa rfl rfl <| Z7 <| Z6 <| Zb <| Z0p <| Z4m <| Z7y [0, 2, 7] [(0, pt b1 0), (2, .func (.func 126) #[] #[]), (7, vi (imin (IntKind.i64.wrap (x4 + x6)) (x3.size : Int)))] rfl <| Z4k (K := k) (fun j E w15 => ∃ (h14 : Hp) (x18 : Int), (Z1j j).lexis_scanner_span_v1_l1 x3 x4 x18 = some r ∧ E = [(0, pt b1 0), (2, .func (.func 126) #[] #[]), (7, vi x18)] ∧ Stp [] w0 h0 w15 h14 ∧ Hle h9 h14 ∧ OB w15 h14 b1 T2 [.string x3, vi x4]) ?_ ?_ (j := k) (Nat.le_refl _) ?_
 ·rintro E w15 ⟨_, _, HF, _⟩; cases HF
 ·rintro j20 hj22 IHL21 E w15 ⟨h14, x18, HF, rfl, S17, le16, ob19⟩
  refine Z09 (fun E w51 => ∃ (h50 : Hp), Za3 j20 (Z1j j20) x3 x4 x18 = some r ∧ E = [(0, pt b1 0), (2, .func (.func 126) #[] #[]), (7, vi x18)] ∧ Stp [] w0 h0 w51 h50 ∧ Hle h14 h50 ∧ OB w51 h50 b1 T2 [.string x3, vi x4]) ?_ ?_
  ·rintro E w51 ⟨h50, HF, rfl, S53, le52, ob54⟩
   refine Z0p <| Z1 <| Wm rfl rfl <| Wv rfl (Z3n rfl rfl) <| Wa rfl rfl <| Z7 <| Z0a <| Z2c <| Z7y [0, 2, 7] [(0, pt b1 0), (2, .func (.func 126) #[] #[]), (7, vi (IntKind.i64.wrap (x18 + 1)))] rfl ?_
   exact IHL21 j20 (Nat.le_refl _) _ _ ⟨h50, IntKind.i64.wrap (x18 + 1), HF, rfl, S53, (le16).trans le52, ob54⟩
  intro J55
  refine Z09 (fun E w34 => ∃ (h33 : Hp) (x37 : Bool), Z77 j20 (Z1j j20) x3 x4 x18 x37 = some r ∧ E = [(0, pt b1 0), (2, .func (.func 126) #[] #[]), (7, vi x18), (36, .bool x37)] ∧ Stp [] w0 h0 w34 h33 ∧ Hle h14 h33 ∧ OB w34 h33 b1 T2 [.string x3, vi x4]) ?_ ?_
  ·rintro E w34 ⟨h33, x37, HF, rfl, S36, le35, ob38⟩
   refine Z17 HF rfl (fun HF => ?_) (fun HF => ?_)
   ·refine Zm <| Z0g [0, 2, 7] _ rfl ?_
    exact J55 ⟨h33, HF, rfl, S36, le35, ob38⟩
   refine Z4x <| Zz <| Zz <| Z1a <| Z6 <| Zb <| Z2x (m := 9) [(0, pt b1 0), (7, vi x18)] [0, 7] rfl (fun i v w h => match i with | 0 => v = pt b1 0 | 1 => v = pt b1 0 | 2 => v = pt b1 0 | 3 => v = .string x3 | 4 => v = pt b1 0 | 5 => v = pt b1 0 | 6 => v = pt b1 1 | 7 => v = vi x4 | 8 => v = vi x18 | _ => True) Z3f S36.sub rfl rfl rfl rfl rfl ?_ ?_ ?_
   ·intro i v w h w2 h2 hΦ hst
    match i, hΦ with
    | 0, hΦ | 1, hΦ | 2, hΦ | 3, hΦ | 4, hΦ | 5, hΦ | 6, hΦ | 7, hΦ | 8, hΦ => exact hΦ
    | i + 9, _ => exact trivial
   ·refine ⟨?_, ?_, ?_, ?_, ?_, ?_, ?_, ?_, ?_, trivial⟩
    ·intro a w40 h41 s42 hat hF
     exact Z3 hat rfl (Zu rfl) s42.sub (by exact rfl)
    ·intro a w40 h41 s42 hat hF
     exact Z3 (Z0 hat (hF 0 39 rfl rfl)) rfl (Zs rfl) s42.sub (by exact rfl)
    ·intro a w40 h41 s42 hat hF
     exact Z3 (Z0 hat (hF 1 40 rfl rfl)) rfl (Z2 rfl Z1w) s42.sub (by exact rfl)
    ·intro a w40 h41 s42 hat hF
     have ob43 := (ob38.step0 s42)
     exact Z3 (Z0 hat (hF 2 41 rfl rfl)) rfl (Zc rfl Z2r (OB.cell ob43 (j := 0) rfl)) s42.sub (by exact rfl)
    ·intro a w40 h41 s42 hat hF
     exact Z3 hat rfl (Zu rfl) s42.sub (by exact rfl)
    ·intro a w40 h41 s42 hat hF
     exact Z3 (Z0 hat (hF 4 43 rfl rfl)) rfl (Zs rfl) s42.sub (by exact rfl)
    ·intro a w40 h41 s42 hat hF
     exact Z3 (Z0 hat (hF 5 44 rfl rfl)) rfl (Z2 rfl Z0q) s42.sub (by exact rfl)
    ·intro a w40 h41 s42 hat hF
     have ob44 := (ob38.step0 s42)
     exact Z3 (Z0 hat (hF 6 45 rfl rfl)) rfl (Zc rfl Z0f (OB.cell ob44 (j := 1) rfl)) s42.sub (by exact rfl)
    intro a w40 h41 s42 hat hF
    exact Z3 hat rfl (Zu rfl) s42.sub (by exact rfl)
   intro a w40 h41 s42 hat hF
   obtain hv0 := hF 0 39 (by decide) rfl
   obtain hv1 := hF 1 40 (by decide) rfl
   obtain hv2 := hF 2 41 (by decide) rfl
   obtain hv3 := hF 3 42 (by decide) rfl
   obtain hv4 := hF 4 43 (by decide) rfl
   obtain hv5 := hF 5 44 (by decide) rfl
   obtain hv6 := hF 6 45 (by decide) rfl
   obtain hv7 := hF 7 46 (by decide) rfl
   obtain hv8 := hF 8 47 (by decide) rfl
   refine Z7z [(47, vi x18), (46, vi x4), (45, pt b1 1), (44, pt b1 0), (43, pt b1 0), (42, .string x3), (41, pt b1 0), (40, pt b1 0), (39, pt b1 0), (0, pt b1 0), (7, vi x18)] (Z0 (Z0 (Z0 (Z0 (Z0 (Z0 (Z0 (Z0 (Z0 hat hv0) hv1) hv2) hv3) hv4) hv5) hv6) hv7) hv8) ?_
   have S45 := S36.trans0 s42
   obtain ⟨t46, ht47, HF⟩ := Z8 HF
   refine Wv rfl (ov_sliceSLH rfl rfl rfl Z08 ht47) <| Wa rfl rfl <| Z7 <| Z6 <| Z00 <| Zt rfl rfl ?_
   obtain rfl := Option.some.inj HF
   exact ⟨_, rfl, h41, S45, rfl⟩
  intro J48
  refine Z1 <| Wm rfl rfl <| Wm rfl rfl <| Wv rfl (Zs rfl) <| Wv rfl (Z2 rfl Z1w) <| Wv rfl (Zc rfl Z2r (OB.cell ob19 (j := 0) rfl)) <| Wv rfl (Z95 rfl Z08) <| Wv rfl (Zbt rfl rfl) <| Wm rfl rfl <| Z3g 27 HF rfl (fun HF => ?_) (fun HF => ?_)
  ·refine Wm rfl rfl <| Wm rfl rfl <| Wv rfl (Zs rfl) <| Wv rfl (Z2 rfl Z1w) <| Wv rfl (Zc rfl Z2r (OB.cell ob19 (j := 0) rfl)) <| Wm rfl rfl ?_
   obtain ⟨c24, hc25, HF⟩ := Z8 HF
   refine Wv rfl (Z93 rfl rfl Z08 hc25) ?_
   obtain ⟨r26, hr27, HF⟩ := Z8 HF
   refine Wc rfl (oc_val (vs := [.int .u8 c24]) (caps := []) rfl rfl t_ent_126) (ok_lexis_isPart _ hr27 S17.sub) ?_
   rintro _ w29 ⟨h30, s31, rfl⟩
   have S32 := S17.trans0 s31
   refine Wv rfl (Zh rfl rfl) <| Z7 ?_
   have ob49 := (ob19.step0 s31)
   refine Z0g [0, 2, 7, 36] _ rfl ?_
   exact J48 ⟨h30, r26, HF, rfl, S32, s31.le, ob49⟩
  refine Wp rfl <| Wp rfl <| Wp rfl <| Wp rfl <| Wp rfl <| Wp rfl <| Wp rfl <| Wp rfl <| Wv rfl (Zg rfl rfl) <| Z7 <| Z0g [0, 2, 7, 36] _ rfl ?_
  exact J48 ⟨h14, false, HF, rfl, S17, Hle.refl _, ob19⟩
 have ob56 := (ob5.step0 s10)
 exact ⟨h9, imin (IntKind.i64.wrap (x4 + x6)) (x3.size : Int), HF, rfl, S13, Hle.refl _, ob56⟩
theorem Zff : ∀ k j, j ≤ k → Z5j (Z1j j).lexis_scanner_span_v1 := by
  intro k
  induction k with
  | zero =>
    intro j hj
    obtain rfl : j = 0 := by omega
    exact (fun _ _ _ _ => by intro h; cases h)
  | succ k ih =>
    intro j hj
    by_cases h : j ≤ k
    · exact ih j h
    · obtain rfl : j = k + 1 := by omega
      exact Zhj k ih
theorem Zgj (k : Nat) : Z5j (Zar k) := (Zff k k (Nat.le_refl _))
def C_lexis_IsWord (φ : ByteArray → Option Bool) : Prop := ∀ ⦃x1 : ByteArray⦄ ⦃r : Bool⦄, φ x1 = some r → ∀ ⦃w0 : World⦄ ⦃h0 : Hp⦄, Sub h0 w0 →
  Calls Tryz.prog 93 #[.string x1] w0 fun e w1 => ∃ v, e = .returned v ∧ ∃ h1, Stp [] w0 h0 w1 h1 ∧ v = .bool r
theorem s_lexis_IsWord (k : Nat) : C_lexis_IsWord (Zcw k) := by
 intro x1 r HF w0 h0  hs0 
 have S0 : Stp [] w0 h0 w0 h0 := Stp.refl hs0 _
 refine Z4j (n := 95) Tryz.func93 rfl Tryz.ntmps93 rfl [(0, .string x1)] rfl <| Zb <| Z1 <| Wa rfl rfl <| Z7 <| Z6 <| Z09 (fun E w99 => ∃ (h98 : Hp), lexis_IsWord_j2 k  = some r ∧ E = [] ∧ Stp [] w0 h0 w99 h98 ∧ Hle h0 h98) ?_ ?_
 ·rintro E w99 ⟨h98, HF, rfl, S101, le100⟩
  refine Zb <| Z1 <| Wa rfl rfl <| Z7 <| Z6 <| Z00 <| Zt rfl rfl ?_
  obtain rfl := Option.some.inj HF
  exact ⟨_, rfl, h98, S101, rfl⟩
 intro J102
 refine Zb <| Z1 <| Wm rfl rfl <| Z7 <| Z6 <| Z0p <| Z09 (fun E w92 => ∃ (h91 : Hp) (x95 : Bool), Zf k x95 = some r ∧ E = [(4, .bool x95)] ∧ Stp [] w0 h0 w92 h91 ∧ Hle h0 h91) ?_ ?_
 ·rintro E w92 ⟨h91, x95, HF, rfl, S94, le93⟩
  refine Z17 HF rfl (fun HF => ?_) (fun HF => ?_)
  ·refine Zb <| Z1 <| Wa rfl rfl <| Z7 <| Z6 <| Z00 <| Zy <| Zi <| Zt rfl rfl ?_
   obtain rfl := Option.some.inj HF
   exact ⟨_, rfl, h91, S94, rfl⟩
  refine Zm <| Z0a <| Z0g [] _ rfl ?_
  exact J102 ⟨h91, HF, rfl, S94, le93⟩
 intro J97
 refine Zb <| Z1 <| Wv rfl (Z0d rfl rfl) <| Wa rfl rfl <| Z7 <| Z6 <| Z17 HF rfl (fun HF => ?_) (fun HF => ?_)
 ·refine Zm <| Z0g [4] _ rfl ?_
  exact J97 ⟨h0, bEq x1 (⟨#[97, 100, 100]⟩ : ByteArray), HF, rfl, S0, Hle.refl _⟩
 refine Zb <| Z1 <| Wv rfl (Z0d rfl rfl) <| Wa rfl rfl <| Z7 <| Z6 <| Z17 HF rfl (fun HF => ?_) (fun HF => ?_)
 ·refine Zm <| Z0g [4] _ rfl ?_
  exact J97 ⟨h0, bEq x1 b'44, HF, rfl, S0, Hle.refl _⟩
 refine Zb <| Z1 <| Wv rfl (Z0d rfl rfl) <| Wa rfl rfl <| Z7 <| Z6 <| Z17 HF rfl (fun HF => ?_) (fun HF => ?_)
 ·refine Zm <| Z0g [4] _ rfl ?_
  exact J97 ⟨h0, bEq x1 (⟨#[97, 110, 100, 110]⟩ : ByteArray), HF, rfl, S0, Hle.refl _⟩
 refine Zb <| Z1 <| Wv rfl (Z0d rfl rfl) <| Wa rfl rfl <| Z7 <| Z6 <| Z17 HF rfl (fun HF => ?_) (fun HF => ?_)
 ·refine Zm <| Z0g [4] _ rfl ?_
  exact J97 ⟨h0, bEq x1 (⟨#[97, 116]⟩ : ByteArray), HF, rfl, S0, Hle.refl _⟩
 refine Zb <| Z1 <| Wv rfl (Z0d rfl rfl) <| Wa rfl rfl <| Z7 <| Z6 <| Z17 HF rfl (fun HF => ?_) (fun HF => ?_)
 ·refine Zm <| Z0g [4] _ rfl ?_
  exact J97 ⟨h0, bEq x1 (⟨#[98, 108, 111, 99, 107]⟩ : ByteArray), HF, rfl, S0, Hle.refl _⟩
 refine Zb <| Z1 <| Wv rfl (Z0d rfl rfl) <| Wa rfl rfl <| Z7 <| Z6 <| Z17 HF rfl (fun HF => ?_) (fun HF => ?_)
 ·refine Zm <| Z0g [4] _ rfl ?_
  exact J97 ⟨h0, bEq x1 (⟨#[98, 111, 111, 108]⟩ : ByteArray), HF, rfl, S0, Hle.refl _⟩
 refine Zb <| Z1 <| Wv rfl (Z0d rfl rfl) <| Wa rfl rfl <| Z7 <| Z6 <| Z17 HF rfl (fun HF => ?_) (fun HF => ?_)
 ·refine Zm <| Z0g [4] _ rfl ?_
  exact J97 ⟨h0, bEq x1 (⟨#[98, 111, 120]⟩ : ByteArray), HF, rfl, S0, Hle.refl _⟩
 refine Zb <| Z1 <| Wv rfl (Z0d rfl rfl) <| Wa rfl rfl <| Z7 <| Z6 <| Z17 HF rfl (fun HF => ?_) (fun HF => ?_)
 ·refine Zm <| Z0g [4] _ rfl ?_
  exact J97 ⟨h0, bEq x1 b'45, HF, rfl, S0, Hle.refl _⟩
 refine Zb <| Z1 <| Wv rfl (Z0d rfl rfl) <| Wa rfl rfl <| Z7 <| Z6 <| Z17 HF rfl (fun HF => ?_) (fun HF => ?_)
 ·refine Zm <| Z0g [4] _ rfl ?_
  exact J97 ⟨h0, bEq x1 (⟨#[99, 97, 108]⟩ : ByteArray), HF, rfl, S0, Hle.refl _⟩
 refine Zb <| Z1 <| Wv rfl (Z0d rfl rfl) <| Wa rfl rfl <| Z7 <| Z6 <| Z17 HF rfl (fun HF => ?_) (fun HF => ?_)
 ·refine Zm <| Z0g [4] _ rfl ?_
  exact J97 ⟨h0, bEq x1 (⟨#[99, 97, 108, 99]⟩ : ByteArray), HF, rfl, S0, Hle.refl _⟩
 refine Zb <| Z1 <| Wv rfl (Z0d rfl rfl) <| Wa rfl rfl <| Z7 <| Z6 <| Z17 HF rfl (fun HF => ?_) (fun HF => ?_)
 ·refine Zm <| Z0g [4] _ rfl ?_
  exact J97 ⟨h0, bEq x1 (⟨#[99, 97, 108, 99, 110]⟩ : ByteArray), HF, rfl, S0, Hle.refl _⟩
 refine Zb <| Z1 <| Wv rfl (Z0d rfl rfl) <| Wa rfl rfl <| Z7 <| Z6 <| Z17 HF rfl (fun HF => ?_) (fun HF => ?_)
 ·refine Zm <| Z0g [4] _ rfl ?_
  exact J97 ⟨h0, bEq x1 b'46, HF, rfl, S0, Hle.refl _⟩
 refine Zb <| Z1 <| Wv rfl (Z0d rfl rfl) <| Wa rfl rfl <| Z7 <| Z6 <| Z17 HF rfl (fun HF => ?_) (fun HF => ?_)
 ·refine Zm <| Z0g [4] _ rfl ?_
  exact J97 ⟨h0, bEq x1 (⟨#[100, 101, 108, 97, 121]⟩ : ByteArray), HF, rfl, S0, Hle.refl _⟩
 refine Zb <| Z1 <| Wv rfl (Z0d rfl rfl) <| Wa rfl rfl <| Z7 <| Z6 <| Z17 HF rfl (fun HF => ?_) (fun HF => ?_)
 ·refine Zm <| Z0g [4] _ rfl ?_
  exact J97 ⟨h0, bEq x1 (⟨#[100, 105, 118]⟩ : ByteArray), HF, rfl, S0, Hle.refl _⟩
 refine Zb <| Z1 <| Wv rfl (Z0d rfl rfl) <| Wa rfl rfl <| Z7 <| Z6 <| Z17 HF rfl (fun HF => ?_) (fun HF => ?_)
 ·refine Zm <| Z0g [4] _ rfl ?_
  exact J97 ⟨h0, bEq x1 b'0, HF, rfl, S0, Hle.refl _⟩
 refine Zb <| Z1 <| Wv rfl (Z0d rfl rfl) <| Wa rfl rfl <| Z7 <| Z6 <| Z17 HF rfl (fun HF => ?_) (fun HF => ?_)
 ·refine Zm <| Z0g [4] _ rfl ?_
  exact J97 ⟨h0, bEq x1 b'1, HF, rfl, S0, Hle.refl _⟩
 refine Zb <| Z1 <| Wv rfl (Z0d rfl rfl) <| Wa rfl rfl <| Z7 <| Z6 <| Z17 HF rfl (fun HF => ?_) (fun HF => ?_)
 ·refine Zm <| Z0g [4] _ rfl ?_
  exact J97 ⟨h0, bEq x1 b'2, HF, rfl, S0, Hle.refl _⟩
 refine Zb <| Z1 <| Wv rfl (Z0d rfl rfl) <| Wa rfl rfl <| Z7 <| Z6 <| Z17 HF rfl (fun HF => ?_) (fun HF => ?_)
 ·refine Zm <| Z0g [4] _ rfl ?_
  exact J97 ⟨h0, bEq x1 (⟨#[101, 110, 100]⟩ : ByteArray), HF, rfl, S0, Hle.refl _⟩
 refine Zb <| Z1 <| Wv rfl (Z0d rfl rfl) <| Wa rfl rfl <| Z7 <| Z6 <| Z17 HF rfl (fun HF => ?_) (fun HF => ?_)
 ·refine Zm <| Z0g [4] _ rfl ?_
  exact J97 ⟨h0, bEq x1 b'7, HF, rfl, S0, Hle.refl _⟩
 refine Zb <| Z1 <| Wv rfl (Z0d rfl rfl) <| Wa rfl rfl <| Z7 <| Z6 <| Z17 HF rfl (fun HF => ?_) (fun HF => ?_)
 ·refine Zm <| Z0g [4] _ rfl ?_
  exact J97 ⟨h0, bEq x1 b'3, HF, rfl, S0, Hle.refl _⟩
 refine Zb <| Z1 <| Wv rfl (Z0d rfl rfl) <| Wa rfl rfl <| Z7 <| Z6 <| Z17 HF rfl (fun HF => ?_) (fun HF => ?_)
 ·refine Zm <| Z0g [4] _ rfl ?_
  exact J97 ⟨h0, bEq x1 b'4, HF, rfl, S0, Hle.refl _⟩
 refine Zb <| Z1 <| Wv rfl (Z0d rfl rfl) <| Wa rfl rfl <| Z7 <| Z6 <| Z17 HF rfl (fun HF => ?_) (fun HF => ?_)
 ·refine Zm <| Z0g [4] _ rfl ?_
  exact J97 ⟨h0, bEq x1 b'5, HF, rfl, S0, Hle.refl _⟩
 refine Zb <| Z1 <| Wv rfl (Z0d rfl rfl) <| Wa rfl rfl <| Z7 <| Z6 <| Z17 HF rfl (fun HF => ?_) (fun HF => ?_)
 ·refine Zm <| Z0g [4] _ rfl ?_
  exact J97 ⟨h0, bEq x1 b'6, HF, rfl, S0, Hle.refl _⟩
 refine Zb <| Z1 <| Wv rfl (Z0d rfl rfl) <| Wa rfl rfl <| Z7 <| Z6 <| Z17 HF rfl (fun HF => ?_) (fun HF => ?_)
 ·refine Zm <| Z0g [4] _ rfl ?_
  exact J97 ⟨h0, bEq x1 (⟨#[101, 110, 116, 101, 114]⟩ : ByteArray), HF, rfl, S0, Hle.refl _⟩
 refine Zb <| Z1 <| Wv rfl (Z0d rfl rfl) <| Wa rfl rfl <| Z7 <| Z6 <| Z17 HF rfl (fun HF => ?_) (fun HF => ?_)
 ·refine Zm <| Z0g [4] _ rfl ?_
  exact J97 ⟨h0, bEq x1 (⟨#[101, 113]⟩ : ByteArray), HF, rfl, S0, Hle.refl _⟩
 refine Zb <| Z1 <| Wv rfl (Z0d rfl rfl) <| Wa rfl rfl <| Z7 <| Z6 <| Z17 HF rfl (fun HF => ?_) (fun HF => ?_)
 ·refine Zm <| Z0g [4] _ rfl ?_
  exact J97 ⟨h0, bEq x1 (⟨#[101, 118, 101, 114, 121]⟩ : ByteArray), HF, rfl, S0, Hle.refl _⟩
 refine Zb <| Z1 <| Wv rfl (Z0d rfl rfl) <| Wa rfl rfl <| Z7 <| Z6 <| Z17 HF rfl (fun HF => ?_) (fun HF => ?_)
 ·refine Zm <| Z0g [4] _ rfl ?_
  exact J97 ⟨h0, bEq x1 b'8, HF, rfl, S0, Hle.refl _⟩
 refine Zb <| Z1 <| Wv rfl (Z0d rfl rfl) <| Wa rfl rfl <| Z7 <| Z6 <| Z17 HF rfl (fun HF => ?_) (fun HF => ?_)
 ·refine Zm <| Z0g [4] _ rfl ?_
  exact J97 ⟨h0, bEq x1 (⟨#[102, 97, 108, 108]⟩ : ByteArray), HF, rfl, S0, Hle.refl _⟩
 refine Zb <| Z1 <| Wv rfl (Z0d rfl rfl) <| Wa rfl rfl <| Z7 <| Z6 <| Z17 HF rfl (fun HF => ?_) (fun HF => ?_)
 ·refine Zm <| Z0g [4] _ rfl ?_
  exact J97 ⟨h0, bEq x1 b'10, HF, rfl, S0, Hle.refl _⟩
 refine Zb <| Z1 <| Wv rfl (Z0d rfl rfl) <| Wa rfl rfl <| Z7 <| Z6 <| Z17 HF rfl (fun HF => ?_) (fun HF => ?_)
 ·refine Zm <| Z0g [4] _ rfl ?_
  exact J97 ⟨h0, bEq x1 (⟨#[102, 98, 100]⟩ : ByteArray), HF, rfl, S0, Hle.refl _⟩
 refine Zb <| Z1 <| Wv rfl (Z0d rfl rfl) <| Wa rfl rfl <| Z7 <| Z6 <| Z17 HF rfl (fun HF => ?_) (fun HF => ?_)
 ·refine Zm <| Z0g [4] _ rfl ?_
  exact J97 ⟨h0, bEq x1 b'9, HF, rfl, S0, Hle.refl _⟩
 refine Zb <| Z1 <| Wv rfl (Z0d rfl rfl) <| Wa rfl rfl <| Z7 <| Z6 <| Z17 HF rfl (fun HF => ?_) (fun HF => ?_)
 ·refine Zm <| Z0g [4] _ rfl ?_
  exact J97 ⟨h0, bEq x1 (⟨#[102, 114, 111, 109]⟩ : ByteArray), HF, rfl, S0, Hle.refl _⟩
 refine Zb <| Z1 <| Wv rfl (Z0d rfl rfl) <| Wa rfl rfl <| Z7 <| Z6 <| Z17 HF rfl (fun HF => ?_) (fun HF => ?_)
 ·refine Zm <| Z0g [4] _ rfl ?_
  exact J97 ⟨h0, bEq x1 (⟨#[102, 117, 110, 99, 116, 105, 111, 110]⟩ : ByteArray), HF, rfl, S0, Hle.refl _⟩
 refine Zb <| Z1 <| Wv rfl (Z0d rfl rfl) <| Wa rfl rfl <| Z7 <| Z6 <| Z17 HF rfl (fun HF => ?_) (fun HF => ?_)
 ·refine Zm <| Z0g [4] _ rfl ?_
  exact J97 ⟨h0, bEq x1 (⟨#[103, 101]⟩ : ByteArray), HF, rfl, S0, Hle.refl _⟩
 refine Zb <| Z1 <| Wv rfl (Z0d rfl rfl) <| Wa rfl rfl <| Z7 <| Z6 <| Z17 HF rfl (fun HF => ?_) (fun HF => ?_)
 ·refine Zm <| Z0g [4] _ rfl ?_
  exact J97 ⟨h0, bEq x1 (⟨#[103, 116]⟩ : ByteArray), HF, rfl, S0, Hle.refl _⟩
 refine Zb <| Z1 <| Wv rfl (Z0d rfl rfl) <| Wa rfl rfl <| Z7 <| Z6 <| Z17 HF rfl (fun HF => ?_) (fun HF => ?_)
 ·refine Zm <| Z0g [4] _ rfl ?_
  exact J97 ⟨h0, bEq x1 b'11, HF, rfl, S0, Hle.refl _⟩
 refine Zb <| Z1 <| Wv rfl (Z0d rfl rfl) <| Wa rfl rfl <| Z7 <| Z6 <| Z17 HF rfl (fun HF => ?_) (fun HF => ?_)
 ·refine Zm <| Z0g [4] _ rfl ?_
  exact J97 ⟨h0, bEq x1 (⟨#[105, 108]⟩ : ByteArray), HF, rfl, S0, Hle.refl _⟩
 refine Zb <| Z1 <| Wv rfl (Z0d rfl rfl) <| Wa rfl rfl <| Z7 <| Z6 <| Z17 HF rfl (fun HF => ?_) (fun HF => ?_)
 ·refine Zm <| Z0g [4] _ rfl ?_
  exact J97 ⟨h0, bEq x1 (⟨#[105, 110, 105, 116, 105, 97, 108]⟩ : ByteArray), HF, rfl, S0, Hle.refl _⟩
 refine Zb <| Z1 <| Wv rfl (Z0d rfl rfl) <| Wa rfl rfl <| Z7 <| Z6 <| Z17 HF rfl (fun HF => ?_) (fun HF => ?_)
 ·refine Zm <| Z0g [4] _ rfl ?_
  exact J97 ⟨h0, bEq x1 (⟨#[105, 110, 112, 117, 116]⟩ : ByteArray), HF, rfl, S0, Hle.refl _⟩
 refine Zb <| Z1 <| Wv rfl (Z0d rfl rfl) <| Wa rfl rfl <| Z7 <| Z6 <| Z17 HF rfl (fun HF => ?_) (fun HF => ?_)
 ·refine Zm <| Z0g [4] _ rfl ?_
  exact J97 ⟨h0, bEq x1 (⟨#[105, 110, 116]⟩ : ByteArray), HF, rfl, S0, Hle.refl _⟩
 refine Zb <| Z1 <| Wv rfl (Z0d rfl rfl) <| Wa rfl rfl <| Z7 <| Z6 <| Z17 HF rfl (fun HF => ?_) (fun HF => ?_)
 ·refine Zm <| Z0g [4] _ rfl ?_
  exact J97 ⟨h0, bEq x1 (⟨#[106, 109, 112]⟩ : ByteArray), HF, rfl, S0, Hle.refl _⟩
 refine Zb <| Z1 <| Wv rfl (Z0d rfl rfl) <| Wa rfl rfl <| Z7 <| Z6 <| Z17 HF rfl (fun HF => ?_) (fun HF => ?_)
 ·refine Zm <| Z0g [4] _ rfl ?_
  exact J97 ⟨h0, bEq x1 (⟨#[106, 109, 112, 99]⟩ : ByteArray), HF, rfl, S0, Hle.refl _⟩
 refine Zb <| Z1 <| Wv rfl (Z0d rfl rfl) <| Wa rfl rfl <| Z7 <| Z6 <| Z17 HF rfl (fun HF => ?_) (fun HF => ?_)
 ·refine Zm <| Z0g [4] _ rfl ?_
  exact J97 ⟨h0, bEq x1 (⟨#[106, 109, 112, 99, 110]⟩ : ByteArray), HF, rfl, S0, Hle.refl _⟩
 refine Zb <| Z1 <| Wv rfl (Z0d rfl rfl) <| Wa rfl rfl <| Z7 <| Z6 <| Z17 HF rfl (fun HF => ?_) (fun HF => ?_)
 ·refine Zm <| Z0g [4] _ rfl ?_
  exact J97 ⟨h0, bEq x1 (⟨#[106, 117, 109, 112]⟩ : ByteArray), HF, rfl, S0, Hle.refl _⟩
 refine Zb <| Z1 <| Wv rfl (Z0d rfl rfl) <| Wa rfl rfl <| Z7 <| Z6 <| Z17 HF rfl (fun HF => ?_) (fun HF => ?_)
 ·refine Zm <| Z0g [4] _ rfl ?_
  exact J97 ⟨h0, bEq x1 (⟨#[108, 100]⟩ : ByteArray), HF, rfl, S0, Hle.refl _⟩
 refine Zb <| Z1 <| Wv rfl (Z0d rfl rfl) <| Wa rfl rfl <| Z7 <| Z6 <| Z17 HF rfl (fun HF => ?_) (fun HF => ?_)
 ·refine Zm <| Z0g [4] _ rfl ?_
  exact J97 ⟨h0, bEq x1 (⟨#[108, 100, 110]⟩ : ByteArray), HF, rfl, S0, Hle.refl _⟩
 refine Zb <| Z1 <| Wv rfl (Z0d rfl rfl) <| Wa rfl rfl <| Z7 <| Z6 <| Z17 HF rfl (fun HF => ?_) (fun HF => ?_)
 ·refine Zm <| Z0g [4] _ rfl ?_
  exact J97 ⟨h0, bEq x1 (⟨#[108, 101]⟩ : ByteArray), HF, rfl, S0, Hle.refl _⟩
 refine Zb <| Z1 <| Wv rfl (Z0d rfl rfl) <| Wa rfl rfl <| Z7 <| Z6 <| Z17 HF rfl (fun HF => ?_) (fun HF => ?_)
 ·refine Zm <| Z0g [4] _ rfl ?_
  exact J97 ⟨h0, bEq x1 (⟨#[108, 101, 97, 118, 101]⟩ : ByteArray), HF, rfl, S0, Hle.refl _⟩
 refine Zb <| Z1 <| Wv rfl (Z0d rfl rfl) <| Wa rfl rfl <| Z7 <| Z6 <| Z17 HF rfl (fun HF => ?_) (fun HF => ?_)
 ·refine Zm <| Z0g [4] _ rfl ?_
  exact J97 ⟨h0, bEq x1 (⟨#[108, 105, 109, 105, 116, 95]⟩ : ByteArray), HF, rfl, S0, Hle.refl _⟩
 refine Zb <| Z1 <| Wv rfl (Z0d rfl rfl) <| Wa rfl rfl <| Z7 <| Z6 <| Z17 HF rfl (fun HF => ?_) (fun HF => ?_)
 ·refine Zm <| Z0g [4] _ rfl ?_
  exact J97 ⟨h0, bEq x1 (⟨#[108, 111, 99, 97, 108]⟩ : ByteArray), HF, rfl, S0, Hle.refl _⟩
 refine Zb <| Z1 <| Wv rfl (Z0d rfl rfl) <| Wa rfl rfl <| Z7 <| Z6 <| Z17 HF rfl (fun HF => ?_) (fun HF => ?_)
 ·refine Zm <| Z0g [4] _ rfl ?_
  exact J97 ⟨h0, bEq x1 (⟨#[108, 116]⟩ : ByteArray), HF, rfl, S0, Hle.refl _⟩
 refine Zb <| Z1 <| Wv rfl (Z0d rfl rfl) <| Wa rfl rfl <| Z7 <| Z6 <| Z17 HF rfl (fun HF => ?_) (fun HF => ?_)
 ·refine Zm <| Z0g [4] _ rfl ?_
  exact J97 ⟨h0, bEq x1 (⟨#[109, 97, 99, 114, 111]⟩ : ByteArray), HF, rfl, S0, Hle.refl _⟩
 refine Zb <| Z1 <| Wv rfl (Z0d rfl rfl) <| Wa rfl rfl <| Z7 <| Z6 <| Z17 HF rfl (fun HF => ?_) (fun HF => ?_)
 ·refine Zm <| Z0g [4] _ rfl ?_
  exact J97 ⟨h0, bEq x1 b'12, HF, rfl, S0, Hle.refl _⟩
 refine Zb <| Z1 <| Wv rfl (Z0d rfl rfl) <| Wa rfl rfl <| Z7 <| Z6 <| Z17 HF rfl (fun HF => ?_) (fun HF => ?_)
 ·refine Zm <| Z0g [4] _ rfl ?_
  exact J97 ⟨h0, bEq x1 (⟨#[109, 117, 108]⟩ : ByteArray), HF, rfl, S0, Hle.refl _⟩
 refine Zb <| Z1 <| Wv rfl (Z0d rfl rfl) <| Wa rfl rfl <| Z7 <| Z6 <| Z17 HF rfl (fun HF => ?_) (fun HF => ?_)
 ·refine Zm <| Z0g [4] _ rfl ?_
  exact J97 ⟨h0, bEq x1 (⟨#[110, 101]⟩ : ByteArray), HF, rfl, S0, Hle.refl _⟩
 refine Zb <| Z1 <| Wv rfl (Z0d rfl rfl) <| Wa rfl rfl <| Z7 <| Z6 <| Z17 HF rfl (fun HF => ?_) (fun HF => ?_)
 ·refine Zm <| Z0g [4] _ rfl ?_
  exact J97 ⟨h0, bEq x1 b'13, HF, rfl, S0, Hle.refl _⟩
 refine Zb <| Z1 <| Wv rfl (Z0d rfl rfl) <| Wa rfl rfl <| Z7 <| Z6 <| Z17 HF rfl (fun HF => ?_) (fun HF => ?_)
 ·refine Zm <| Z0g [4] _ rfl ?_
  exact J97 ⟨h0, bEq x1 b'14, HF, rfl, S0, Hle.refl _⟩
 refine Zb <| Z1 <| Wv rfl (Z0d rfl rfl) <| Wa rfl rfl <| Z7 <| Z6 <| Z17 HF rfl (fun HF => ?_) (fun HF => ?_)
 ·refine Zm <| Z0g [4] _ rfl ?_
  exact J97 ⟨h0, bEq x1 b'15, HF, rfl, S0, Hle.refl _⟩
 refine Zb <| Z1 <| Wv rfl (Z0d rfl rfl) <| Wa rfl rfl <| Z7 <| Z6 <| Z17 HF rfl (fun HF => ?_) (fun HF => ?_)
 ·refine Zm <| Z0g [4] _ rfl ?_
  exact J97 ⟨h0, bEq x1 (⟨#[111, 114, 110]⟩ : ByteArray), HF, rfl, S0, Hle.refl _⟩
 refine Zb <| Z1 <| Wv rfl (Z0d rfl rfl) <| Wa rfl rfl <| Z7 <| Z6 <| Z17 HF rfl (fun HF => ?_) (fun HF => ?_)
 ·refine Zm <| Z0g [4] _ rfl ?_
  exact J97 ⟨h0, bEq x1 (⟨#[111, 117, 116, 112, 117, 116]⟩ : ByteArray), HF, rfl, S0, Hle.refl _⟩
 refine Zb <| Z1 <| Wv rfl (Z0d rfl rfl) <| Wa rfl rfl <| Z7 <| Z6 <| Z17 HF rfl (fun HF => ?_) (fun HF => ?_)
 ·refine Zm <| Z0g [4] _ rfl ?_
  exact J97 ⟨h0, bEq x1 (⟨#[112, 104, 97, 115, 101]⟩ : ByteArray), HF, rfl, S0, Hle.refl _⟩
 refine Zb <| Z1 <| Wv rfl (Z0d rfl rfl) <| Wa rfl rfl <| Z7 <| Z6 <| Z17 HF rfl (fun HF => ?_) (fun HF => ?_)
 ·refine Zm <| Z0g [4] _ rfl ?_
  exact J97 ⟨h0, bEq x1 (⟨#[112, 114, 105, 111, 114, 105, 116, 121]⟩ : ByteArray), HF, rfl, S0, Hle.refl _⟩
 refine Zb <| Z1 <| Wv rfl (Z0d rfl rfl) <| Wa rfl rfl <| Z7 <| Z6 <| Z17 HF rfl (fun HF => ?_) (fun HF => ?_)
 ·refine Zm <| Z0g [4] _ rfl ?_
  exact J97 ⟨h0, bEq x1 (⟨#[112, 114, 111, 103, 114, 97, 109]⟩ : ByteArray), HF, rfl, S0, Hle.refl _⟩
 refine Zb <| Z1 <| Wv rfl (Z0d rfl rfl) <| Wa rfl rfl <| Z7 <| Z6 <| Z17 HF rfl (fun HF => ?_) (fun HF => ?_)
 ·refine Zm <| Z0g [4] _ rfl ?_
  exact J97 ⟨h0, bEq x1 b'16, HF, rfl, S0, Hle.refl _⟩
 refine Zb <| Z1 <| Wv rfl (Z0d rfl rfl) <| Wa rfl rfl <| Z7 <| Z6 <| Z17 HF rfl (fun HF => ?_) (fun HF => ?_)
 ·refine Zm <| Z0g [4] _ rfl ?_
  exact J97 ⟨h0, bEq x1 (⟨#[114, 101, 115, 101, 116]⟩ : ByteArray), HF, rfl, S0, Hle.refl _⟩
 refine Zb <| Z1 <| Wv rfl (Z0d rfl rfl) <| Wa rfl rfl <| Z7 <| Z6 <| Z17 HF rfl (fun HF => ?_) (fun HF => ?_)
 ·refine Zm <| Z0g [4] _ rfl ?_
  exact J97 ⟨h0, bEq x1 (⟨#[114, 101, 116]⟩ : ByteArray), HF, rfl, S0, Hle.refl _⟩
 refine Zb <| Z1 <| Wv rfl (Z0d rfl rfl) <| Wa rfl rfl <| Z7 <| Z6 <| Z17 HF rfl (fun HF => ?_) (fun HF => ?_)
 ·refine Zm <| Z0g [4] _ rfl ?_
  exact J97 ⟨h0, bEq x1 (⟨#[114, 101, 116, 97, 105, 110]⟩ : ByteArray), HF, rfl, S0, Hle.refl _⟩
 refine Zb <| Z1 <| Wv rfl (Z0d rfl rfl) <| Wa rfl rfl <| Z7 <| Z6 <| Z17 HF rfl (fun HF => ?_) (fun HF => ?_)
 ·refine Zm <| Z0g [4] _ rfl ?_
  exact J97 ⟨h0, bEq x1 (⟨#[114, 101, 116, 99]⟩ : ByteArray), HF, rfl, S0, Hle.refl _⟩
 refine Zb <| Z1 <| Wv rfl (Z0d rfl rfl) <| Wa rfl rfl <| Z7 <| Z6 <| Z17 HF rfl (fun HF => ?_) (fun HF => ?_)
 ·refine Zm <| Z0g [4] _ rfl ?_
  exact J97 ⟨h0, bEq x1 (⟨#[114, 101, 116, 99, 110]⟩ : ByteArray), HF, rfl, S0, Hle.refl _⟩
 refine Zb <| Z1 <| Wv rfl (Z0d rfl rfl) <| Wa rfl rfl <| Z7 <| Z6 <| Z17 HF rfl (fun HF => ?_) (fun HF => ?_)
 ·refine Zm <| Z0g [4] _ rfl ?_
  exact J97 ⟨h0, bEq x1 b'17, HF, rfl, S0, Hle.refl _⟩
 refine Zb <| Z1 <| Wv rfl (Z0d rfl rfl) <| Wa rfl rfl <| Z7 <| Z6 <| Z17 HF rfl (fun HF => ?_) (fun HF => ?_)
 ·refine Zm <| Z0g [4] _ rfl ?_
  exact J97 ⟨h0, bEq x1 (⟨#[114, 105, 115, 101]⟩ : ByteArray), HF, rfl, S0, Hle.refl _⟩
 refine Zb <| Z1 <| Wv rfl (Z0d rfl rfl) <| Wa rfl rfl <| Z7 <| Z6 <| Z17 HF rfl (fun HF => ?_) (fun HF => ?_)
 ·refine Zm <| Z0g [4] _ rfl ?_
  exact J97 ⟨h0, bEq x1 (⟨#[114, 117, 110]⟩ : ByteArray), HF, rfl, S0, Hle.refl _⟩
 refine Zb <| Z1 <| Wv rfl (Z0d rfl rfl) <| Wa rfl rfl <| Z7 <| Z6 <| Z17 HF rfl (fun HF => ?_) (fun HF => ?_)
 ·refine Zm <| Z0g [4] _ rfl ?_
  exact J97 ⟨h0, bEq x1 (⟨#[114, 117, 110, 103]⟩ : ByteArray), HF, rfl, S0, Hle.refl _⟩
 refine Zb <| Z1 <| Wv rfl (Z0d rfl rfl) <| Wa rfl rfl <| Z7 <| Z6 <| Z17 HF rfl (fun HF => ?_) (fun HF => ?_)
 ·refine Zm <| Z0g [4] _ rfl ?_
  exact J97 ⟨h0, bEq x1 (⟨#[115, 101, 116]⟩ : ByteArray), HF, rfl, S0, Hle.refl _⟩
 refine Zb <| Z1 <| Wv rfl (Z0d rfl rfl) <| Wa rfl rfl <| Z7 <| Z6 <| Z17 HF rfl (fun HF => ?_) (fun HF => ?_)
 ·refine Zm <| Z0g [4] _ rfl ?_
  exact J97 ⟨h0, bEq x1 (⟨#[115, 102, 99]⟩ : ByteArray), HF, rfl, S0, Hle.refl _⟩
 refine Zb <| Z1 <| Wv rfl (Z0d rfl rfl) <| Wa rfl rfl <| Z7 <| Z6 <| Z17 HF rfl (fun HF => ?_) (fun HF => ?_)
 ·refine Zm <| Z0g [4] _ rfl ?_
  exact J97 ⟨h0, bEq x1 (⟨#[115, 116]⟩ : ByteArray), HF, rfl, S0, Hle.refl _⟩
 refine Zb <| Z1 <| Wv rfl (Z0d rfl rfl) <| Wa rfl rfl <| Z7 <| Z6 <| Z17 HF rfl (fun HF => ?_) (fun HF => ?_)
 ·refine Zm <| Z0g [4] _ rfl ?_
  exact J97 ⟨h0, bEq x1 (⟨#[115, 116, 101, 112]⟩ : ByteArray), HF, rfl, S0, Hle.refl _⟩
 refine Zb <| Z1 <| Wv rfl (Z0d rfl rfl) <| Wa rfl rfl <| Z7 <| Z6 <| Z17 HF rfl (fun HF => ?_) (fun HF => ?_)
 ·refine Zm <| Z0g [4] _ rfl ?_
  exact J97 ⟨h0, bEq x1 (⟨#[115, 116, 110]⟩ : ByteArray), HF, rfl, S0, Hle.refl _⟩
 refine Zb <| Z1 <| Wv rfl (Z0d rfl rfl) <| Wa rfl rfl <| Z7 <| Z6 <| Z17 HF rfl (fun HF => ?_) (fun HF => ?_)
 ·refine Zm <| Z0g [4] _ rfl ?_
  exact J97 ⟨h0, bEq x1 (⟨#[115, 117, 98]⟩ : ByteArray), HF, rfl, S0, Hle.refl _⟩
 refine Zb <| Z1 <| Wv rfl (Z0d rfl rfl) <| Wa rfl rfl <| Z7 <| Z6 <| Z17 HF rfl (fun HF => ?_) (fun HF => ?_)
 ·refine Zm <| Z0g [4] _ rfl ?_
  exact J97 ⟨h0, bEq x1 (⟨#[116, 97, 115, 107]⟩ : ByteArray), HF, rfl, S0, Hle.refl _⟩
 refine Zb <| Z1 <| Wv rfl (Z0d rfl rfl) <| Wa rfl rfl <| Z7 <| Z6 <| Z17 HF rfl (fun HF => ?_) (fun HF => ?_)
 ·refine Zm <| Z0g [4] _ rfl ?_
  exact J97 ⟨h0, bEq x1 b'18, HF, rfl, S0, Hle.refl _⟩
 refine Zb <| Z1 <| Wv rfl (Z0d rfl rfl) <| Wa rfl rfl <| Z7 <| Z6 <| Z17 HF rfl (fun HF => ?_) (fun HF => ?_)
 ·refine Zm <| Z0g [4] _ rfl ?_
  exact J97 ⟨h0, bEq x1 (⟨#[116, 105, 109, 101]⟩ : ByteArray), HF, rfl, S0, Hle.refl _⟩
 refine Zb <| Z1 <| Wv rfl (Z0d rfl rfl) <| Wa rfl rfl <| Z7 <| Z6 <| Z17 HF rfl (fun HF => ?_) (fun HF => ?_)
 ·refine Zm <| Z0g [4] _ rfl ?_
  exact J97 ⟨h0, bEq x1 b'19, HF, rfl, S0, Hle.refl _⟩
 refine Zb <| Z1 <| Wv rfl (Z0d rfl rfl) <| Wa rfl rfl <| Z7 <| Z6 <| Z17 HF rfl (fun HF => ?_) (fun HF => ?_)
 ·refine Zm <| Z0g [4] _ rfl ?_
  exact J97 ⟨h0, bEq x1 (⟨#[116, 114, 97, 110, 115, 105, 116, 105, 111, 110]⟩ : ByteArray), HF, rfl, S0, Hle.refl _⟩
 refine Zb <| Z1 <| Wv rfl (Z0d rfl rfl) <| Wa rfl rfl <| Z7 <| Z6 <| Z17 HF rfl (fun HF => ?_) (fun HF => ?_)
 ·refine Zm <| Z0g [4] _ rfl ?_
  exact J97 ⟨h0, bEq x1 b'20, HF, rfl, S0, Hle.refl _⟩
 refine Zb <| Z1 <| Wv rfl (Z0d rfl rfl) <| Wa rfl rfl <| Z7 <| Z6 <| Z17 HF rfl (fun HF => ?_) (fun HF => ?_)
 ·refine Zm <| Z0g [4] _ rfl ?_
  exact J97 ⟨h0, bEq x1 b'22, HF, rfl, S0, Hle.refl _⟩
 refine Zb <| Z1 <| Wv rfl (Z0d rfl rfl) <| Wa rfl rfl <| Z7 <| Z6 <| Z17 HF rfl (fun HF => ?_) (fun HF => ?_)
 ·refine Zm <| Z0g [4] _ rfl ?_
  exact J97 ⟨h0, bEq x1 (⟨#[119, 104, 101, 110]⟩ : ByteArray), HF, rfl, S0, Hle.refl _⟩
 refine Zb <| Z1 <| Wv rfl (Z0d rfl rfl) <| Wa rfl rfl <| Z7 <| Z6 <| Z17 HF rfl (fun HF => ?_) (fun HF => ?_)
 ·refine Zm <| Z0g [4] _ rfl ?_
  exact J97 ⟨h0, bEq x1 b'23, HF, rfl, S0, Hle.refl _⟩
 refine Zb <| Z1 <| Wv rfl (Z0d rfl rfl) <| Wa rfl rfl <| Z7 <| Z6 <| Z17 HF rfl (fun HF => ?_) (fun HF => ?_)
 ·refine Zm <| Z0g [4] _ rfl ?_
  exact J97 ⟨h0, bEq x1 b'24, HF, rfl, S0, Hle.refl _⟩
 refine Z1 <| Wv rfl (Z0d rfl rfl) <| Wa rfl rfl <| Z7 <| Z0g [4] _ rfl ?_
 exact J97 ⟨h0, bEq x1 (⟨#[120, 111, 114, 110]⟩ : ByteArray), HF, rfl, S0, Hle.refl _⟩
theorem ok_lexis_IsWord (k : Nat) : C_lexis_IsWord (Zcw k) := s_lexis_IsWord k
def Zeo (φ : ByteArray → Option Bool) : Prop := ∀ ⦃x1 : ByteArray⦄ ⦃r : Bool⦄, φ x1 = some r → ∀ ⦃w0 : World⦄ ⦃h0 : Hp⦄, Sub h0 w0 →
  Calls Tryz.prog 149 #[.string x1] w0 fun e w1 => ∃ v, e = .returned v ∧ ∃ h1, Stp [] w0 h0 w1 h1 ∧ v = .bool r
theorem s_lexis_isRun (k : Nat) (IH : ∀ j, j ≤ k → Zeo (Z4y j).lexis_isRun) : Zeo (m_lexis_isRun k (Z4y k)) := by
 intro x1 r HF w0 h0  hs0 
 have S0 : Stp [] w0 h0 w0 h0 := Stp.refl hs0 _
 refine Z4j (n := 22) Tryz.func149 rfl Tryz.ntmps149 rfl [(0, .string x1)] rfl <| Zb <| Z1 <| Wa rfl rfl <| Z7 <| Z6 <| Zb <| Zb <| Z1 <| Wm rfl rfl <| Wv rfl (Z95 rfl Z08) <| Wm rfl rfl <| Z7 <| Z6 <| Z0p <| Z4m <| Z7y [0, 5, 6] [(0, .string x1), (5, vi (x1.size : Int)), (6, vi 0)] rfl <| Z4k (K := k) (fun j E w3 => ∃ (h2 : Hp) (x6 : Int), (Z4y j).lexis_isRun_l1 x1 x6 = some r ∧ E = [(0, .string x1), (5, vi (x1.size : Int)), (6, vi x6)] ∧ Stp [] w0 h0 w3 h2 ∧ Hle h0 h2) ?_ ?_ (j := k) (Nat.le_refl _) ?_
 ·rintro E w3 ⟨_, _, HF, _⟩; cases HF
 ·rintro j7 hj9 IHL8 E w3 ⟨h2, x6, HF, rfl, S5, le4⟩
  refine Zb <| Z1 <| Wv rfl (Zbt rfl rfl) <| Z7 <| Z6 <| Z09 (fun E w22 => ∃ (h21 : Hp), lexis_isRun_j2 j7 (Z4y j7) x1 x6 = some r ∧ E = [(0, .string x1), (5, vi (x1.size : Int)), (6, vi x6)] ∧ Stp [] w0 h0 w22 h21 ∧ Hle h2 h21) ?_ ?_
  ·rintro E w22 ⟨h21, HF, rfl, S24, le23⟩
   refine Zb <| Z0p <| Zb <| Z1 <| Wm rfl rfl <| Wa rfl rfl <| Z7 <| Z6 <| Zb <| Z1 <| Wm rfl rfl <| Wm rfl rfl ?_
   obtain ⟨c25, hc26, HF⟩ := Z8 HF
   refine Wv rfl (Z93 rfl rfl Z08 hc26) ?_
   obtain ⟨r27, hr28, HF⟩ := Z8 HF
   refine Wc rfl (Ze (vs := [.int .u8 c25]) rfl t_ent_126) (ok_lexis_isPart _ hr28 S24.sub) ?_
   rintro _ w30 ⟨h31, s32, rfl⟩
   have S33 := S24.trans0 s32
   refine Wv rfl (Z3c rfl) <| Z7 <| Z6 <| Z17 HF rfl (fun HF => ?_) (fun HF => ?_)
   ·refine Zb <| Z1 <| Wa rfl rfl <| Z7 <| Z6 <| Z00 <| Zy <| Zi <| Zi <| Zy <| Zi <| Zt rfl rfl ?_
    obtain rfl := Option.some.inj HF
    exact ⟨_, rfl, h31, S33, rfl⟩
   refine Zm <| Z0a <| Z6 <| Z1 <| Wv rfl (Z3n rfl rfl) <| Wm rfl rfl <| Z7 <| Z2c <| Z7y [0, 5, 6] [(0, .string x1), (5, vi (x1.size : Int)), (6, vi (IntKind.i64.wrap (x6 + 1)))] rfl ?_
   exact IHL8 j7 (Nat.le_refl _) _ _ ⟨h31, IntKind.i64.wrap (x6 + 1), HF, rfl, S33, (le4).trans ((le23).trans s32.le)⟩
  intro J35
  refine Z17 HF rfl (fun HF => ?_) (fun HF => ?_)
  ·refine Zm <| Z0g [0, 5, 6] _ rfl ?_
   exact J35 ⟨h2, HF, rfl, S5, Hle.refl _⟩
  refine Z4x <| Zz <| Zz <| Z1a <| Z6 <| Zb <| Z1 <| Wm rfl rfl <| Wv rfl (ov_neqS rfl rfl) <| Wm rfl rfl <| Z3g 17 HF rfl (fun HF => ?_) (fun HF => ?_)
  ·refine Wm rfl rfl ?_
   obtain ⟨c12, hc13, HF⟩ := Z8 HF
   refine Wv rfl (Z93 rfl rfl Z08 hc13) ?_
   obtain ⟨r14, hr15, HF⟩ := Z8 HF
   refine Wc rfl (Ze (vs := [.int .u8 c12]) rfl t_ent_70) (Z97 _ hr15 S5.sub) ?_
   rintro _ w17 ⟨h18, s19, rfl⟩
   have S20 := S5.trans0 s19
   refine Wv rfl (Zh rfl rfl) <| Wa rfl rfl <| Z7 <| Z6 <| Z00 <| Zt rfl rfl ?_
   obtain rfl := Option.some.inj HF
   exact ⟨_, rfl, h18, S20, rfl⟩
  refine Wp rfl <| Wp rfl <| Wp rfl <| Wv rfl (Zg rfl rfl) <| Wa rfl rfl <| Z7 <| Z6 <| Z00 <| Zt rfl rfl ?_
  obtain rfl := Option.some.inj HF
  exact ⟨_, rfl, h2, S5, rfl⟩
 exact ⟨h0, 0, HF, rfl, S0, Hle.refl _⟩
theorem all_lexis_isRun : ∀ k j, j ≤ k → Zeo (Z4y j).lexis_isRun := by
  intro k
  induction k with
  | zero =>
    intro j hj
    obtain rfl : j = 0 := by omega
    exact (fun _ _ => by intro h; cases h)
  | succ k ih =>
    intro j hj
    by_cases h : j ≤ k
    · exact ih j h
    · obtain rfl : j = k + 1 := by omega
      exact s_lexis_isRun k ih
theorem ok_lexis_isRun (k : Nat) : Zeo (F_lexis_isRun k) := (all_lexis_isRun k k (Nat.le_refl _))
def C_lexis_IsName (φ : ByteArray → Option Bool) : Prop := ∀ ⦃x1 : ByteArray⦄ ⦃r : Bool⦄, φ x1 = some r → ∀ ⦃w0 : World⦄ ⦃h0 : Hp⦄, Sub h0 w0 →
  Calls Tryz.prog 89 #[.string x1] w0 fun e w1 => ∃ v, e = .returned v ∧ ∃ h1, Stp [] w0 h0 w1 h1 ∧ v = .bool r
theorem s_lexis_IsName (k : Nat) : C_lexis_IsName (Za4 k) := by
 intro x1 r HF w0 h0  hs0 
 have S0 : Stp [] w0 h0 w0 h0 := Stp.refl hs0 _
 refine Z4j (n := 15) Tryz.func89 rfl Tryz.ntmps89 rfl [(0, .string x1)] rfl <| Zb <| Z1 <| Wa rfl rfl <| Z7 <| Z6 <| Zb <| Z1 <| Wm rfl rfl ?_
 obtain ⟨r2, hr3, HF⟩ := Z8 HF
 refine Wc rfl (Ze (vs := [.string x1]) rfl t_ent_149) (ok_lexis_isRun _ hr3 S0.sub) ?_
 rintro _ w5 ⟨h6, s7, rfl⟩
 have S8 := S0.trans0 s7
 refine Wm rfl rfl <| Z3g 5 HF rfl (fun HF => ?_) (fun HF => ?_)
 ·refine Wm rfl rfl <| Wv rfl (Z95 rfl Z08) <| Wv rfl (ov_leq rfl rfl) <| Wv rfl (Zh rfl rfl) <| Wm rfl rfl <| Z3g 10 HF rfl (fun HF => ?_) (fun HF => ?_)
  ·refine Wm rfl rfl ?_
   obtain ⟨r11, hr12, HF⟩ := Z8 HF
   refine Wc rfl (Ze (vs := [.string x1]) rfl t_ent_93) (ok_lexis_IsWord _ hr12 S8.sub) ?_
   rintro _ w14 ⟨h15, s16, rfl⟩
   have S17 := S8.trans0 s16
   refine Wv rfl (Z3c rfl) <| Wv rfl (Zh rfl rfl) <| Wa rfl rfl <| Z7 <| Z6 <| Z00 <| Zt rfl rfl ?_
   obtain rfl := Option.some.inj HF
   exact ⟨_, rfl, h15, S17, rfl⟩
  refine Wp rfl <| Wp rfl <| Wp rfl <| Wv rfl (Zg rfl rfl) <| Wa rfl rfl <| Z7 <| Z6 <| Z00 <| Zt rfl rfl ?_
  obtain rfl := Option.some.inj HF
  exact ⟨_, rfl, h6, S8, rfl⟩
 refine Wp rfl <| Wp rfl <| Wp rfl <| Wv rfl (Zg rfl rfl) <| Wm rfl rfl <| Wp rfl <| Wp rfl <| Wp rfl <| Wv rfl (Zg rfl rfl) <| Wa rfl rfl <| Z7 <| Z6 <| Z00 <| Zt rfl rfl ?_
 obtain rfl := Option.some.inj HF
 exact ⟨_, rfl, h6, S8, rfl⟩
theorem Zf6 (k : Nat) : C_lexis_IsName (Za4 k) := s_lexis_IsName k
def Zdv (φ : ByteArray → Int → Option (Tok × Int)) : Prop := ∀ ⦃x3 : ByteArray⦄ ⦃x4 : Int⦄ ⦃r : Tok × Int⦄, φ x3 x4 = some r → ∀ ⦃w0 : World⦄ ⦃h0 : Hp⦄ ⦃b1 : Nat⦄ ⦃T2 : Nat⦄, Sub h0 w0 → OB w0 h0 b1 T2 [.string x3, .int .i64 x4] →
  Calls Tryz.prog 71 #[.pointer (some ⟨b1, 0, none⟩)] w0 fun e w1 => ∃ v, e = .returned v ∧ ∃ h1, Stp [] w0 h0 w1 h1 ∧ (∃ u0 u1 : Value, v = .tuple #[u0, u1] ∧ (∃ cs : List Value, u0 = .agg cs.toArray ∧ Rp.R h1 r.1 cs) ∧ (u1 = .int .i64 r.2))
theorem s_lexis_scanner_word (k : Nat) : Zdv (Z9b k) := by
 intro x3 x4 r HF w0 h0 b1 T2 hs0 ob5
 have S0 : Stp [] w0 h0 w0 h0 := Stp.refl hs0 _
 have lt6 : b1 < w0.heap.size := OB.lt ob5
 refine Z4j (n := 19) Tryz.func71 rfl Tryz.ntmps71 rfl [(0, pt b1 0)] rfl <| Zb <| Z1 <| Z15 (zs := [vi 0, .string b'47, vi 0]) rfl rfl Z60 rfl S0.sub (fun w7 b8 hb9 s10 ob11 => ?_)
 have ne12 : b1 ≠ b8 := ob5.ne_new hb9
 have g13 : w0.heap.size ≤ b8 := by rw [hb9]; exact S0.size
 have S14 := S0.trans0 s10
 refine Wa rfl rfl <| Z7 <| Z6 <| Zb <| Z1 <| Wm rfl rfl ?_
 have ob15 := (ob5.step0 s10)
 obtain ⟨r16, hr17, HF⟩ := Z8 HF
 refine Wc rfl (Ze (vs := [pt b1 0, vi 0, .func (.func 126) #[] #[]]) rfl t_ent_125) (Zgj _ hr17 S14.sub ob15) ?_
 rintro _ w19 ⟨h20, s21, rfl⟩
 have S22 := S14.trans0 s21
 refine Wa rfl rfl <| Z7 <| Z6 <| Z09 (fun E w46 => ∃ (h45 : Hp), Zcp k r16 = some r ∧ E = [(2, pt b8 0), (4, .string r16)] ∧ Stp [] w0 h0 w46 h45 ∧ Hle h20 h45 ∧ OB w46 h45 b1 T2 [.string x3, vi x4] ∧ OB w46 h45 b8 38 [vi 0, .string b'47, vi 0]) ?_ ?_
 ·rintro E w46 ⟨h45, HF, rfl, S48, le47, ob49, ob50⟩
  refine Zb <| Z1 <| Wm rfl rfl <| Wm rfl rfl ?_
  obtain ⟨r51, hr52, HF⟩ := Z8 HF
  refine Wc rfl (Ze (vs := [.string r16]) rfl t_ent_89) (Zf6 _ hr52 S48.sub) ?_
  rintro _ w54 ⟨h55, s56, rfl⟩
  have S57 := S48.trans0 s56
  obtain ⟨r58, hr59, HF⟩ := Z8 HF
  refine Wc rfl (Ze (vs := [vi 1, .string r16, .bool r51]) rfl t_ent_123) (Z8k _ hr59 S57.sub) ?_
  rintro _ w61 ⟨h62, s63, _, _, rfl, ⟨cs64, rfl, r65⟩, rfl⟩
  have S66 := S57.trans0 s63
  refine Wv rfl (Z0c rfl rfl) <| Wv rfl (Z0c rfl rfl) ?_
  have ob67 := ((ob50.step0 s56).step0 s63)
  obtain rfl := Z62.1 r65
  refine Zo (vs := [vi r58.1.kind, .string r58.1.text, vi r58.1.pos]) rfl rfl rfl rfl Z1o (Z5 rfl (Z5 rfl (Z5 rfl Zx))) ob67 S66.sub (by simp) (ds := [vi r58.1.kind, .string r58.1.text, vi r58.1.pos]) rfl (fun w68 s69 ob70 => ?_)
  have S71 := S66.trans1 s69 (.inr g13)
  refine Wa rfl rfl <| Z7 <| Z6 <| Z00 <| Zgy (rg2 rfl (Z5k rfl (Z11 (cs := [vi r58.1.kind, .string r58.1.text, vi r58.1.pos]) Z80 Z1o (OB.cells ob70 0 rfl))) (ri_tmp rfl)) ?_
  obtain rfl := Option.some.inj HF
  exact ⟨_, rfl, h62, S71, _, _, rfl, ⟨_, rfl, (Z62.2 rfl)⟩, rfl⟩
 intro J72
 refine Zb <| Z1 <| Wm rfl rfl ?_
 obtain ⟨r23, hr24, HF⟩ := Z8 HF
 refine Wc rfl (Ze (vs := [.string r16]) rfl t_ent_93) (ok_lexis_IsWord _ hr24 S22.sub) ?_
 rintro _ w26 ⟨h27, s28, rfl⟩
 have S29 := S22.trans0 s28
 refine Z7 <| Z6 <| Z17 HF rfl (fun HF => ?_) (fun HF => ?_)
 ·refine Zb <| Z1 <| Wm rfl rfl ?_
  obtain ⟨r31, hr32, HF⟩ := Z8 HF
  refine Wc rfl (Ze (vs := [vi 5, .string r16, .bool true]) rfl t_ent_123) (Z8k _ hr32 S29.sub) ?_
  rintro _ w34 ⟨h35, s36, _, _, rfl, ⟨cs37, rfl, r38⟩, rfl⟩
  have S39 := S29.trans0 s36
  refine Wv rfl (Z0c rfl rfl) <| Wv rfl (Z0c rfl rfl) ?_
  have ob40 := (((ob11.step0 s21).step0 s28).step0 s36)
  obtain rfl := Z62.1 r38
  refine Zo (vs := [vi r31.1.kind, .string r31.1.text, vi r31.1.pos]) rfl rfl rfl rfl Z1o (Z5 rfl (Z5 rfl (Z5 rfl Zx))) ob40 S39.sub (by simp) (ds := [vi r31.1.kind, .string r31.1.text, vi r31.1.pos]) rfl (fun w41 s42 ob43 => ?_)
  have S44 := S39.trans1 s42 (.inr g13)
  refine Wa rfl rfl <| Z7 <| Z6 <| Z00 <| Zi <| Zgy (rg2 rfl (Z5k rfl (Z11 (cs := [vi r31.1.kind, .string r31.1.text, vi r31.1.pos]) Z80 Z1o (OB.cells ob43 0 rfl))) (ri_tmp rfl)) ?_
  obtain rfl := Option.some.inj HF
  exact ⟨_, rfl, h35, S44, _, _, rfl, ⟨_, rfl, (Z62.2 rfl)⟩, rfl⟩
 refine Zm ?_
 have ob73 := ((ob15.step0 s21).step0 s28)
 have ob74 := ((ob11.step0 s21).step0 s28)
 refine Z0g [2, 4] _ rfl ?_
 exact J72 ⟨h27, HF, rfl, S29, s28.le, ob73, ob74⟩
theorem ok_lexis_scanner_word (k : Nat) : Zdv (Z9b k) := s_lexis_scanner_word k
def C_strings_IndexByte (φ : ByteArray → Int → Option Int) : Prop := ∀ ⦃x1 : ByteArray⦄ ⦃x2 : Int⦄ ⦃r : Int⦄, φ x1 x2 = some r → ∀ ⦃w0 : World⦄ ⦃h0 : Hp⦄, Sub h0 w0 →
  Calls Tryz.prog 153 #[.string x1, .int .u8 x2] w0 fun e w1 => ∃ v, e = .returned v ∧ ∃ h1, Stp [] w0 h0 w1 h1 ∧ v = .int .i64 r
theorem ok_strings_IndexByte (k : Nat) : C_strings_IndexByte (Zah k) := by
  intro x1 x2 r HF w0 h0 hs0
  simp only [Zah] at HF
  cases HF
  refine (Tryz.strings_IndexByte x1 x2 w0).mono ?_
  rintro e w1 ⟨rfl, rfl⟩
  exact ⟨_, rfl, h0, Stp.refl hs0 _, rfl⟩
def Zh9 (φ : ByteArray → Option Bool) : Prop := ∀ ⦃x1 : ByteArray⦄ ⦃r : Bool⦄, φ x1 = some r → ∀ ⦃w0 : World⦄ ⦃h0 : Hp⦄, Sub h0 w0 →
  Calls Tryz.prog 94 #[.string x1] w0 fun e w1 => ∃ v, e = .returned v ∧ ∃ h1, Stp [] w0 h0 w1 h1 ∧ v = .bool r
theorem s_lexis_IsAddress (k : Nat) : Zh9 (Zc1 k) := by
 intro x1 r HF w0 h0  hs0 
 have S0 : Stp [] w0 h0 w0 h0 := Stp.refl hs0 _
 refine Z4j (n := 22) Tryz.func94 rfl Tryz.ntmps94 rfl [(0, .string x1)] rfl <| Zb <| Z1 <| Wa rfl rfl <| Z7 <| Z6 <| Zb <| Z1 <| Wm rfl rfl <| Wv rfl (Z95 rfl Z08) <| Wv rfl (Ze7 rfl rfl) <| Wm rfl rfl <| Z3g 6 HF rfl (fun HF => ?_) (fun HF => ?_)
 ·refine Wm rfl rfl ?_
  obtain ⟨c3, hc4, HF⟩ := Z8 HF
  refine Wv rfl (Z93 rfl rfl Z08 hc4) <| Wv rfl (Z4n rfl rfl) <| Wv rfl (Zh rfl rfl) <| Wm rfl rfl <| Z3g 11 HF rfl (fun HF => ?_) (fun HF => ?_)
  ·refine Wm rfl rfl ?_
   obtain ⟨c6, hc7, HF⟩ := Z8 HF
   refine Wv rfl (Z93 rfl rfl Z08 hc7) ?_
   obtain ⟨r8, hr9, HF⟩ := Z8 HF
   refine Wc rfl (Ze (vs := [.string (⟨#[105, 113, 109]⟩ : ByteArray), .int .u8 c6]) rfl t_ent_153) (ok_strings_IndexByte _ hr9 S0.sub) ?_
   rintro _ w11 ⟨h12, s13, rfl⟩
   have S14 := S0.trans0 s13
   refine Wv rfl (ov_geq rfl rfl) <| Wv rfl (Zh rfl rfl) <| Wm rfl rfl <| Z3g 17 HF rfl (fun HF => ?_) (fun HF => ?_)
   ·refine Wm rfl rfl ?_
    obtain ⟨t16, ht17, HF⟩ := Z8 HF
    refine Wv rfl (ov_sliceSL rfl rfl Z08 ht17) ?_
    obtain ⟨r18, hr19, HF⟩ := Z8 HF
    refine Wc rfl (Ze (vs := [.string t16, vi 63]) rfl t_ent_90) (Zb7 _ hr19 S14.sub) ?_
    rintro _ w21 ⟨h22, s23, rfl⟩
    have S24 := S14.trans0 s23
    refine Wv rfl (Zh rfl rfl) <| Wa rfl rfl <| Z7 <| Z6 <| Z00 <| Zt rfl rfl ?_
    obtain rfl := Option.some.inj HF
    exact ⟨_, rfl, h22, S24, rfl⟩
   refine Wp rfl <| Wp rfl <| Wp rfl <| Wv rfl (Zg rfl rfl) <| Wa rfl rfl <| Z7 <| Z6 <| Z00 <| Zt rfl rfl ?_
   obtain rfl := Option.some.inj HF
   exact ⟨_, rfl, h12, S14, rfl⟩
  refine Wp rfl <| Wp rfl <| Wp rfl <| Wp rfl <| Wv rfl (Zg rfl rfl) <| Wm rfl rfl <| Wp rfl <| Wp rfl <| Wp rfl <| Wv rfl (Zg rfl rfl) <| Wa rfl rfl <| Z7 <| Z6 <| Z00 <| Zt rfl rfl ?_
  obtain rfl := Option.some.inj HF
  exact ⟨_, rfl, h0, S0, rfl⟩
 refine Wp rfl <| Wp rfl <| Wp rfl <| Wv rfl (Zg rfl rfl) <| Wm rfl rfl <| Wp rfl <| Wp rfl <| Wp rfl <| Wp rfl <| Wv rfl (Zg rfl rfl) <| Wm rfl rfl <| Wp rfl <| Wp rfl <| Wp rfl <| Wv rfl (Zg rfl rfl) <| Wa rfl rfl <| Z7 <| Z6 <| Z00 <| Zt rfl rfl ?_
 obtain rfl := Option.some.inj HF
 exact ⟨_, rfl, h0, S0, rfl⟩
theorem ok_lexis_IsAddress (k : Nat) : Zh9 (Zc1 k) := s_lexis_IsAddress k
def Z9s (φ : Int → Option Bool) : Prop := ∀ ⦃x1 : Int⦄ ⦃r : Bool⦄, φ x1 = some r → ∀ ⦃w0 : World⦄ ⦃h0 : Hp⦄, Sub h0 w0 →
  Calls Tryz.prog 127 #[.int .u8 x1] w0 fun e w1 => ∃ v, e = .returned v ∧ ∃ h1, Stp [] w0 h0 w1 h1 ∧ v = .bool r
theorem Zfe (k : Nat) : Z9s (Z6w k) := by
 intro x1 r HF w0 h0  hs0 
 have S0 : Stp [] w0 h0 w0 h0 := Stp.refl hs0 _
 refine Z4j (n := 9) Tryz.func127 rfl Tryz.ntmps127 rfl [(0, .int .u8 x1)] rfl <| Zb <| Z1 <| Wa rfl rfl <| Z7 <| Z6 <| Zb <| Z1 <| Wm rfl rfl ?_
 obtain ⟨r2, hr3, HF⟩ := Z8 HF
 refine Wc rfl (Ze (vs := [.int .u8 x1]) rfl t_ent_70) (Z97 _ hr3 S0.sub) ?_
 rintro _ w5 ⟨h6, s7, rfl⟩
 have S8 := S0.trans0 s7
 refine Wm rfl rfl <| Z3g 5 HF rfl (fun HF => ?_) (fun HF => ?_)
 ·refine Wp rfl <| Wp rfl <| Wv rfl (Zh rfl rfl) <| Wa rfl rfl <| Z7 <| Z6 <| Z00 <| Zt rfl rfl ?_
  obtain rfl := Option.some.inj HF
  exact ⟨_, rfl, h6, S8, rfl⟩
 refine Wm rfl rfl ?_
 obtain ⟨r10, hr11, HF⟩ := Z8 HF
 refine Wc rfl (Ze (vs := [.int .u8 x1]) rfl t_ent_72) (Z9z _ hr11 S8.sub) ?_
 rintro _ w13 ⟨h14, s15, rfl⟩
 have S16 := S8.trans0 s15
 refine Wv rfl (Zg rfl rfl) <| Wa rfl rfl <| Z7 <| Z6 <| Z00 <| Zt rfl rfl ?_
 obtain rfl := Option.some.inj HF
 exact ⟨_, rfl, h14, S16, rfl⟩
theorem Zf4 (k : Nat) : Z9s (Z6w k) := Zfe k
def Z5h (φ : ByteArray → Int → Int → Option ByteArray) : Prop := ∀ ⦃x3 : ByteArray⦄ ⦃x4 : Int⦄ ⦃x6 : Int⦄ ⦃r : ByteArray⦄, φ x3 x4 x6 = some r → ∀ ⦃w0 : World⦄ ⦃h0 : Hp⦄ ⦃b1 : Nat⦄ ⦃T2 : Nat⦄, Sub h0 w0 → OB w0 h0 b1 T2 [.string x3, .int .i64 x4] →
  Calls Tryz.prog 125 #[.pointer (some ⟨b1, 0, none⟩), .int .i64 x6, .func (.func 127) #[] #[]] w0 fun e w1 => ∃ v, e = .returned v ∧ ∃ h1, Stp [] w0 h0 w1 h1 ∧ v = .string r
theorem Zhh (k : Nat) (IH : ∀ j, j ≤ k → Z5h (Z1k j).lexis_scanner_span_v2) : Z5h (Zaq k (Z1k k)) := by
 intro x3 x4 x6 r HF w0 h0 b1 T2 hs0 ob5
 have S0 : Stp [] w0 h0 w0 h0 := Stp.refl hs0 _
 have lt7 : b1 < w0.heap.size := OB.lt ob5
 refine Z4j (n := 49) Tryz.func125 rfl Tryz.ntmps125 rfl [(0, pt b1 0), (1, vi x6), (2, .func (.func 127) #[] #[])] rfl <| Zb <| Z1 <| Wa rfl rfl <| Z7 <| Z6 <| Zb <| Z2x (m := 11) [(0, pt b1 0), (1, vi x6), (2, .func (.func 127) #[] #[])] [0, 1, 2] rfl (fun i v w h => match i with | 0 => v = pt b1 0 | 1 => v = pt b1 0 | 2 => v = pt b1 1 | 3 => v = vi x4 | 4 => v = vi x6 | 5 => v = vi (IntKind.i64.wrap (x4 + x6)) | 6 => v = pt b1 0 | 7 => v = pt b1 0 | 8 => v = pt b1 0 | 9 => v = .string x3 | 10 => v = vi (x3.size : Int) | _ => True) Z3f S0.sub rfl rfl rfl rfl rfl ?_ ?_ ?_
 ·intro i v w h w2 h2 hΦ hst
  match i, hΦ with
  | 0, hΦ | 1, hΦ | 2, hΦ | 3, hΦ | 4, hΦ | 5, hΦ | 6, hΦ | 7, hΦ | 8, hΦ | 9, hΦ | 10, hΦ => exact hΦ
  | i + 11, _ => exact trivial
 ·refine ⟨?_, ?_, ?_, ?_, ?_, ?_, ?_, ?_, ?_, ?_, ?_, trivial⟩
  ·intro a w8 h9 s10 hat hF
   exact Z3 hat rfl (Zu rfl) s10.sub (by exact rfl)
  ·intro a w8 h9 s10 hat hF
   exact Z3 (Z0 hat (hF 0 8 rfl rfl)) rfl (Zs rfl) s10.sub (by exact rfl)
  ·intro a w8 h9 s10 hat hF
   exact Z3 (Z0 hat (hF 1 9 rfl rfl)) rfl (Z2 rfl Z0q) s10.sub (by exact rfl)
  ·intro a w8 h9 s10 hat hF
   have ob11 := (ob5.step0 s10)
   exact Z3 (Z0 hat (hF 2 10 rfl rfl)) rfl (Zc rfl Z0f (OB.cell ob11 (j := 1) rfl)) s10.sub (by exact rfl)
  ·intro a w8 h9 s10 hat hF
   exact Z3 hat rfl (Zu rfl) s10.sub (by exact rfl)
  ·intro a w8 h9 s10 hat hF
   exact Z3 (Z0 (Z0 hat (hF 3 11 rfl rfl)) (hF 4 12 rfl rfl)) rfl (Z3n rfl rfl) s10.sub (by exact rfl)
  ·intro a w8 h9 s10 hat hF
   exact Z3 hat rfl (Zu rfl) s10.sub (by exact rfl)
  ·intro a w8 h9 s10 hat hF
   exact Z3 (Z0 hat (hF 6 14 rfl rfl)) rfl (Zs rfl) s10.sub (by exact rfl)
  ·intro a w8 h9 s10 hat hF
   exact Z3 (Z0 hat (hF 7 15 rfl rfl)) rfl (Z2 rfl Z1w) s10.sub (by exact rfl)
  ·intro a w8 h9 s10 hat hF
   have ob12 := (ob5.step0 s10)
   exact Z3 (Z0 hat (hF 8 16 rfl rfl)) rfl (Zc rfl Z2r (OB.cell ob12 (j := 0) rfl)) s10.sub (by exact rfl)
  intro a w8 h9 s10 hat hF
  exact Z3 (Z0 hat (hF 9 17 rfl rfl)) rfl (Z95 rfl Z08) s10.sub (by exact rfl)
 intro a w8 h9 s10 hat hF
 obtain hv0 := hF 0 8 (by decide) rfl
 obtain hv1 := hF 1 9 (by decide) rfl
 obtain hv2 := hF 2 10 (by decide) rfl
 obtain hv3 := hF 3 11 (by decide) rfl
 obtain hv4 := hF 4 12 (by decide) rfl
 obtain hv5 := hF 5 13 (by decide) rfl
 obtain hv6 := hF 6 14 (by decide) rfl
 obtain hv7 := hF 7 15 (by decide) rfl
 obtain hv8 := hF 8 16 (by decide) rfl
 obtain hv9 := hF 9 17 (by decide) rfl
 obtain hv10 := hF 10 18 (by decide) rfl
 refine Z7z [(18, vi (x3.size : Int)), (17, .string x3), (16, pt b1 0), (15, pt b1 0), (14, pt b1 0), (13, vi (IntKind.i64.wrap (x4 + x6))), (12, vi x6), (11, vi x4), (10, pt b1 1), (9, pt b1 0), (8, pt b1 0), (0, pt b1 0), (1, vi x6), (2, .func (.func 127) #[] #[])] (Z0 (Z0 (Z0 (Z0 (Z0 (Z0 (Z0 (Z0 (Z0 (Z0 (Z0 hat hv0) hv1) hv2) hv3) hv4) hv5) hv6) hv7) hv8) hv9) hv10) ?_
 have S13 := S0.trans0 s10
 refine Wv rfl (ov_min rfl rfl) <| Wa rfl rfl <| Z7 <| Z6 <| Zb <| Z0p <| Z4m <| Z7y [0, 2, 7] [(0, pt b1 0), (2, .func (.func 127) #[] #[]), (7, vi (imin (IntKind.i64.wrap (x4 + x6)) (x3.size : Int)))] rfl <| Z4k (K := k) (fun j E w15 => ∃ (h14 : Hp) (x18 : Int), (Z1k j).lexis_scanner_span_v2_l1 x3 x4 x18 = some r ∧ E = [(0, pt b1 0), (2, .func (.func 127) #[] #[]), (7, vi x18)] ∧ Stp [] w0 h0 w15 h14 ∧ Hle h9 h14 ∧ OB w15 h14 b1 T2 [.string x3, vi x4]) ?_ ?_ (j := k) (Nat.le_refl _) ?_
 ·rintro E w15 ⟨_, _, HF, _⟩; cases HF
 ·rintro j20 hj22 IHL21 E w15 ⟨h14, x18, HF, rfl, S17, le16, ob19⟩
  refine Z09 (fun E w51 => ∃ (h50 : Hp), Zad j20 (Z1k j20) x3 x4 x18 = some r ∧ E = [(0, pt b1 0), (2, .func (.func 127) #[] #[]), (7, vi x18)] ∧ Stp [] w0 h0 w51 h50 ∧ Hle h14 h50 ∧ OB w51 h50 b1 T2 [.string x3, vi x4]) ?_ ?_
  ·rintro E w51 ⟨h50, HF, rfl, S53, le52, ob54⟩
   refine Z0p <| Z1 <| Wm rfl rfl <| Wv rfl (Z3n rfl rfl) <| Wa rfl rfl <| Z7 <| Z0a <| Z2c <| Z7y [0, 2, 7] [(0, pt b1 0), (2, .func (.func 127) #[] #[]), (7, vi (IntKind.i64.wrap (x18 + 1)))] rfl ?_
   exact IHL21 j20 (Nat.le_refl _) _ _ ⟨h50, IntKind.i64.wrap (x18 + 1), HF, rfl, S53, (le16).trans le52, ob54⟩
  intro J55
  refine Z09 (fun E w34 => ∃ (h33 : Hp) (x37 : Bool), Z73 j20 (Z1k j20) x3 x4 x18 x37 = some r ∧ E = [(0, pt b1 0), (2, .func (.func 127) #[] #[]), (7, vi x18), (36, .bool x37)] ∧ Stp [] w0 h0 w34 h33 ∧ Hle h14 h33 ∧ OB w34 h33 b1 T2 [.string x3, vi x4]) ?_ ?_
  ·rintro E w34 ⟨h33, x37, HF, rfl, S36, le35, ob38⟩
   refine Z17 HF rfl (fun HF => ?_) (fun HF => ?_)
   ·refine Zm <| Z0g [0, 2, 7] _ rfl ?_
    exact J55 ⟨h33, HF, rfl, S36, le35, ob38⟩
   refine Z4x <| Zz <| Zz <| Z1a <| Z6 <| Zb <| Z2x (m := 9) [(0, pt b1 0), (7, vi x18)] [0, 7] rfl (fun i v w h => match i with | 0 => v = pt b1 0 | 1 => v = pt b1 0 | 2 => v = pt b1 0 | 3 => v = .string x3 | 4 => v = pt b1 0 | 5 => v = pt b1 0 | 6 => v = pt b1 1 | 7 => v = vi x4 | 8 => v = vi x18 | _ => True) Z3f S36.sub rfl rfl rfl rfl rfl ?_ ?_ ?_
   ·intro i v w h w2 h2 hΦ hst
    match i, hΦ with
    | 0, hΦ | 1, hΦ | 2, hΦ | 3, hΦ | 4, hΦ | 5, hΦ | 6, hΦ | 7, hΦ | 8, hΦ => exact hΦ
    | i + 9, _ => exact trivial
   ·refine ⟨?_, ?_, ?_, ?_, ?_, ?_, ?_, ?_, ?_, trivial⟩
    ·intro a w40 h41 s42 hat hF
     exact Z3 hat rfl (Zu rfl) s42.sub (by exact rfl)
    ·intro a w40 h41 s42 hat hF
     exact Z3 (Z0 hat (hF 0 39 rfl rfl)) rfl (Zs rfl) s42.sub (by exact rfl)
    ·intro a w40 h41 s42 hat hF
     exact Z3 (Z0 hat (hF 1 40 rfl rfl)) rfl (Z2 rfl Z1w) s42.sub (by exact rfl)
    ·intro a w40 h41 s42 hat hF
     have ob43 := (ob38.step0 s42)
     exact Z3 (Z0 hat (hF 2 41 rfl rfl)) rfl (Zc rfl Z2r (OB.cell ob43 (j := 0) rfl)) s42.sub (by exact rfl)
    ·intro a w40 h41 s42 hat hF
     exact Z3 hat rfl (Zu rfl) s42.sub (by exact rfl)
    ·intro a w40 h41 s42 hat hF
     exact Z3 (Z0 hat (hF 4 43 rfl rfl)) rfl (Zs rfl) s42.sub (by exact rfl)
    ·intro a w40 h41 s42 hat hF
     exact Z3 (Z0 hat (hF 5 44 rfl rfl)) rfl (Z2 rfl Z0q) s42.sub (by exact rfl)
    ·intro a w40 h41 s42 hat hF
     have ob44 := (ob38.step0 s42)
     exact Z3 (Z0 hat (hF 6 45 rfl rfl)) rfl (Zc rfl Z0f (OB.cell ob44 (j := 1) rfl)) s42.sub (by exact rfl)
    intro a w40 h41 s42 hat hF
    exact Z3 hat rfl (Zu rfl) s42.sub (by exact rfl)
   intro a w40 h41 s42 hat hF
   obtain hv0 := hF 0 39 (by decide) rfl
   obtain hv1 := hF 1 40 (by decide) rfl
   obtain hv2 := hF 2 41 (by decide) rfl
   obtain hv3 := hF 3 42 (by decide) rfl
   obtain hv4 := hF 4 43 (by decide) rfl
   obtain hv5 := hF 5 44 (by decide) rfl
   obtain hv6 := hF 6 45 (by decide) rfl
   obtain hv7 := hF 7 46 (by decide) rfl
   obtain hv8 := hF 8 47 (by decide) rfl
   refine Z7z [(47, vi x18), (46, vi x4), (45, pt b1 1), (44, pt b1 0), (43, pt b1 0), (42, .string x3), (41, pt b1 0), (40, pt b1 0), (39, pt b1 0), (0, pt b1 0), (7, vi x18)] (Z0 (Z0 (Z0 (Z0 (Z0 (Z0 (Z0 (Z0 (Z0 hat hv0) hv1) hv2) hv3) hv4) hv5) hv6) hv7) hv8) ?_
   have S45 := S36.trans0 s42
   obtain ⟨t46, ht47, HF⟩ := Z8 HF
   refine Wv rfl (ov_sliceSLH rfl rfl rfl Z08 ht47) <| Wa rfl rfl <| Z7 <| Z6 <| Z00 <| Zt rfl rfl ?_
   obtain rfl := Option.some.inj HF
   exact ⟨_, rfl, h41, S45, rfl⟩
  intro J48
  refine Z1 <| Wm rfl rfl <| Wm rfl rfl <| Wv rfl (Zs rfl) <| Wv rfl (Z2 rfl Z1w) <| Wv rfl (Zc rfl Z2r (OB.cell ob19 (j := 0) rfl)) <| Wv rfl (Z95 rfl Z08) <| Wv rfl (Zbt rfl rfl) <| Wm rfl rfl <| Z3g 27 HF rfl (fun HF => ?_) (fun HF => ?_)
  ·refine Wm rfl rfl <| Wm rfl rfl <| Wv rfl (Zs rfl) <| Wv rfl (Z2 rfl Z1w) <| Wv rfl (Zc rfl Z2r (OB.cell ob19 (j := 0) rfl)) <| Wm rfl rfl ?_
   obtain ⟨c24, hc25, HF⟩ := Z8 HF
   refine Wv rfl (Z93 rfl rfl Z08 hc25) ?_
   obtain ⟨r26, hr27, HF⟩ := Z8 HF
   refine Wc rfl (oc_val (vs := [.int .u8 c24]) (caps := []) rfl rfl t_ent_127) (Zf4 _ hr27 S17.sub) ?_
   rintro _ w29 ⟨h30, s31, rfl⟩
   have S32 := S17.trans0 s31
   refine Wv rfl (Zh rfl rfl) <| Z7 ?_
   have ob49 := (ob19.step0 s31)
   refine Z0g [0, 2, 7, 36] _ rfl ?_
   exact J48 ⟨h30, r26, HF, rfl, S32, s31.le, ob49⟩
  refine Wp rfl <| Wp rfl <| Wp rfl <| Wp rfl <| Wp rfl <| Wp rfl <| Wp rfl <| Wp rfl <| Wv rfl (Zg rfl rfl) <| Z7 <| Z0g [0, 2, 7, 36] _ rfl ?_
  exact J48 ⟨h14, false, HF, rfl, S17, Hle.refl _, ob19⟩
 have ob56 := (ob5.step0 s10)
 exact ⟨h9, imin (IntKind.i64.wrap (x4 + x6)) (x3.size : Int), HF, rfl, S13, Hle.refl _, ob56⟩
theorem Zfu : ∀ k j, j ≤ k → Z5h (Z1k j).lexis_scanner_span_v2 := by
  intro k
  induction k with
  | zero =>
    intro j hj
    obtain rfl : j = 0 := by omega
    exact (fun _ _ _ _ => by intro h; cases h)
  | succ k ih =>
    intro j hj
    by_cases h : j ≤ k
    · exact ih j h
    · obtain rfl : j = k + 1 := by omega
      exact Zhh k ih
theorem Zfx (k : Nat) : Z5h (Zas k) := (Zfu k k (Nat.le_refl _))
def Zay (φ : ByteArray → Int → Option (Tok × Int)) : Prop := ∀ ⦃x3 : ByteArray⦄ ⦃x4 : Int⦄ ⦃r : Tok × Int⦄, φ x3 x4 = some r → ∀ ⦃w0 : World⦄ ⦃h0 : Hp⦄ ⦃b1 : Nat⦄ ⦃T2 : Nat⦄, Sub h0 w0 → OB w0 h0 b1 T2 [.string x3, .int .i64 x4] →
  Calls Tryz.prog 74 #[.pointer (some ⟨b1, 0, none⟩)] w0 fun e w1 => ∃ v, e = .returned v ∧ ∃ h1, Stp [] w0 h0 w1 h1 ∧ (∃ u0 u1 : Value, v = .tuple #[u0, u1] ∧ (∃ cs : List Value, u0 = .agg cs.toArray ∧ Rp.R h1 r.1 cs) ∧ (u1 = .int .i64 r.2))
theorem Zho (k : Nat) : Zay (Z7p k) := by
 intro x3 x4 r HF w0 h0 b1 T2 hs0 ob5
 have S0 : Stp [] w0 h0 w0 h0 := Stp.refl hs0 _
 have lt6 : b1 < w0.heap.size := OB.lt ob5
 refine Z4j (n := 13) Tryz.func74 rfl Tryz.ntmps74 rfl [(0, pt b1 0)] rfl <| Zb <| Z1 <| Z15 (zs := [vi 0, .string b'47, vi 0]) rfl rfl Z60 rfl S0.sub (fun w7 b8 hb9 s10 ob11 => ?_)
 have ne12 : b1 ≠ b8 := ob5.ne_new hb9
 have g13 : w0.heap.size ≤ b8 := by rw [hb9]; exact S0.size
 have S14 := S0.trans0 s10
 refine Wa rfl rfl <| Z7 <| Z6 <| Zb <| Z1 <| Wm rfl rfl ?_
 have ob15 := (ob5.step0 s10)
 obtain ⟨r16, hr17, HF⟩ := Z8 HF
 refine Wc rfl (Ze (vs := [pt b1 0, vi 1, .func (.func 127) #[] #[]]) rfl t_ent_125) (Zfx _ hr17 S14.sub ob15) ?_
 rintro _ w19 ⟨h20, s21, rfl⟩
 have S22 := S14.trans0 s21
 refine Wa rfl rfl <| Z7 <| Z6 <| Zb <| Z1 <| Wm rfl rfl <| Wm rfl rfl ?_
 obtain ⟨r23, hr24, HF⟩ := Z8 HF
 refine Wc rfl (Ze (vs := [.string r16]) rfl t_ent_94) (ok_lexis_IsAddress _ hr24 S22.sub) ?_
 rintro _ w26 ⟨h27, s28, rfl⟩
 have S29 := S22.trans0 s28
 obtain ⟨r30, hr31, HF⟩ := Z8 HF
 refine Wc rfl (Ze (vs := [vi 6, .string r16, .bool r23]) rfl t_ent_123) (Z8k _ hr31 S29.sub) ?_
 rintro _ w33 ⟨h34, s35, _, _, rfl, ⟨cs36, rfl, r37⟩, rfl⟩
 have S38 := S29.trans0 s35
 refine Wv rfl (Z0c rfl rfl) <| Wv rfl (Z0c rfl rfl) ?_
 have ob39 := (((ob11.step0 s21).step0 s28).step0 s35)
 obtain rfl := Z62.1 r37
 refine Zo (vs := [vi r30.1.kind, .string r30.1.text, vi r30.1.pos]) rfl rfl rfl rfl Z1o (Z5 rfl (Z5 rfl (Z5 rfl Zx))) ob39 S38.sub (by simp) (ds := [vi r30.1.kind, .string r30.1.text, vi r30.1.pos]) rfl (fun w40 s41 ob42 => ?_)
 have S43 := S38.trans1 s41 (.inr g13)
 refine Wa rfl rfl <| Z7 <| Z6 <| Z00 <| Zgy (rg2 rfl (Z5k rfl (Z11 (cs := [vi r30.1.kind, .string r30.1.text, vi r30.1.pos]) Z80 Z1o (OB.cells ob42 0 rfl))) (ri_tmp rfl)) ?_
 obtain rfl := Option.some.inj HF
 exact ⟨_, rfl, h34, S43, _, _, rfl, ⟨_, rfl, (Z62.2 rfl)⟩, rfl⟩
theorem Zg2 (k : Nat) : Zay (Z7p k) := Zho k
def Z6m (φ : ByteArray → ByteArray → Option Bool) : Prop := ∀ ⦃x1 : ByteArray⦄ ⦃x2 : ByteArray⦄ ⦃r : Bool⦄, φ x1 x2 = some r → ∀ ⦃w0 : World⦄ ⦃h0 : Hp⦄, Sub h0 w0 →
  Calls Tryz.prog 124 #[.string x1, .string x2] w0 fun e w1 => ∃ v, e = .returned v ∧ ∃ h1, Stp [] w0 h0 w1 h1 ∧ v = .bool r
theorem Zbc (k : Nat) : Z6m (Z30 k) := by
 intro x1 x2 r HF w0 h0  hs0 
 have S0 : Stp [] w0 h0 w0 h0 := Stp.refl hs0 _
 refine Z4j (n := 18) Tryz.func124 rfl Tryz.ntmps124 rfl [(0, .string x1), (1, .string x2)] rfl <| Zb <| Z1 <| Wa rfl rfl <| Z7 <| Z6 <| Zb <| Z1 <| Wm rfl rfl <| Wv rfl (Z95 rfl Z08) <| Wm rfl rfl <| Wv rfl (Z95 rfl Z08) <| Wv rfl (ov_geq rfl rfl) <| Wm rfl rfl <| Z3g 10 HF rfl (fun HF => ?_) (fun HF => ?_)
 ·refine Wm rfl rfl <| Wm rfl rfl <| Wv rfl (Z95 rfl Z08) ?_
  obtain ⟨t4, ht5, HF⟩ := Z8 HF
  refine Wv rfl (ov_sliceSH rfl rfl Z08 ht5) <| Wm rfl rfl <| Wv rfl (Z0d rfl rfl) <| Wv rfl (Zh rfl rfl) <| Wa rfl rfl <| Z7 <| Z6 <| Z00 <| Zt rfl rfl ?_
  obtain rfl := Option.some.inj HF
  exact ⟨_, rfl, h0, S0, rfl⟩
 refine Wp rfl <| Wp rfl <| Wp rfl <| Wp rfl <| Wp rfl <| Wp rfl <| Wv rfl (Zg rfl rfl) <| Wa rfl rfl <| Z7 <| Z6 <| Z00 <| Zt rfl rfl ?_
 obtain rfl := Option.some.inj HF
 exact ⟨_, rfl, h0, S0, rfl⟩
theorem Z6b (k : Nat) : Z6m (Z30 k) := Zbc k
def Z6p (φ : ByteArray → ByteArray → Option (ByteArray × Bool)) : Prop := ∀ ⦃x1 : ByteArray⦄ ⦃x2 : ByteArray⦄ ⦃r : ByteArray × Bool⦄, φ x1 x2 = some r → ∀ ⦃w0 : World⦄ ⦃h0 : Hp⦄, Sub h0 w0 →
  Calls Tryz.prog 182 #[.string x1, .string x2] w0 fun e w1 => ∃ v, e = .returned v ∧ ∃ h1, Stp [] w0 h0 w1 h1 ∧ (∃ u0 u1 : Value, v = .tuple #[u0, u1] ∧ (u0 = .string r.1) ∧ (u1 = .bool r.2))
theorem Zbd (k : Nat) : Z6p (Z3w k) := by
 intro x1 x2 r HF w0 h0  hs0 
 have S0 : Stp [] w0 h0 w0 h0 := Stp.refl hs0 _
 refine Z4j (n := 15) Tryz.func182 rfl Tryz.ntmps182 rfl [(0, .string x1), (1, .string x2)] rfl <| Zb <| Z1 <| Wa rfl rfl <| Wa rfl rfl <| Z7 <| Z6 <| Z09 (fun E w12 => ∃ (h11 : Hp), Z6a k x1 x2 = some r ∧ E = [(0, .string x1), (1, .string x2)] ∧ Stp [] w0 h0 w12 h11 ∧ Hle h0 h11) ?_ ?_
 ·rintro E w12 ⟨h11, HF, rfl, S14, le13⟩
  refine Zb <| Z1 <| Wm rfl rfl <| Wm rfl rfl <| Wv rfl (Z95 rfl Z08) ?_
  obtain ⟨t15, ht16, HF⟩ := Z8 HF
  refine Wv rfl (ov_sliceSL rfl rfl Z08 ht16) <| Wa rfl rfl <| Wa rfl rfl <| Z7 <| Z6 <| Z00 <| WQ.ret2 rfl rfl rfl ?_
  obtain rfl := Option.some.inj HF
  exact ⟨_, rfl, h11, S14, _, _, rfl, rfl, rfl⟩
 intro J17
 refine Zb <| Z1 <| Wm rfl rfl <| Wm rfl rfl ?_
 obtain ⟨r3, hr4, HF⟩ := Z8 HF
 refine Wc rfl (Ze (vs := [.string x1, .string x2]) rfl t_ent_124) (Z6b _ hr4 S0.sub) ?_
 rintro _ w6 ⟨h7, s8, rfl⟩
 have S9 := S0.trans0 s8
 refine Wv rfl (Z3c rfl) <| Z7 <| Z6 <| Z17 HF rfl (fun HF => ?_) (fun HF => ?_)
 ·refine Zb <| Z1 <| Wm rfl rfl <| Wa rfl rfl <| Wa rfl rfl <| Z7 <| Z6 <| Z00 <| Zi <| WQ.ret2 rfl rfl rfl ?_
  obtain rfl := Option.some.inj HF
  exact ⟨_, rfl, h7, S9, _, _, rfl, rfl, rfl⟩
 refine Zm <| Z0g [0, 1] _ rfl ?_
 exact J17 ⟨h7, HF, rfl, S9, s8.le⟩
theorem Zan (k : Nat) : Z6p (Z3w k) := Zbd k
def Zep (φ : ByteArray → ByteArray → Option (ByteArray × Bool)) : Prop := ∀ ⦃x1 : ByteArray⦄ ⦃x2 : ByteArray⦄ ⦃r : ByteArray × Bool⦄, φ x1 x2 = some r → ∀ ⦃w0 : World⦄ ⦃h0 : Hp⦄, Sub h0 w0 →
  Calls Tryz.prog 152 #[.string x1, .string x2] w0 fun e w1 => ∃ v, e = .returned v ∧ ∃ h1, Stp [] w0 h0 w1 h1 ∧ (∃ u0 u1 : Value, v = .tuple #[u0, u1] ∧ (u0 = .string r.1) ∧ (u1 = .bool r.2))
theorem s_strings_CutPrefix (k : Nat) : Zep (Zai k) := by
 intro x1 x2 r HF w0 h0  hs0 
 have S0 : Stp [] w0 h0 w0 h0 := Stp.refl hs0 _
 refine Z4j (n := 11) Tryz.func152 rfl Tryz.ntmps152 rfl [(0, .string x1), (1, .string x2)] rfl <| Zb <| Z1 <| Wa rfl rfl <| Wa rfl rfl <| Z7 <| Z6 <| Zb <| Z1 <| Wm rfl rfl <| Wm rfl rfl ?_
 obtain ⟨r3, hr4, HF⟩ := Z8 HF
 refine Wc rfl (Ze (vs := [.string x1, .string x2]) rfl t_ent_182) (Zan _ hr4 S0.sub) ?_
 rintro _ w6 ⟨h7, s8, _, _, rfl, rfl, rfl⟩
 have S9 := S0.trans0 s8
 refine Wv rfl (Z0c rfl rfl) <| Wv rfl (Z0c rfl rfl) <| Wa rfl rfl <| Wa rfl rfl <| Z7 <| Z6 <| Z00 <| WQ.ret2 rfl rfl rfl ?_
 obtain rfl := Option.some.inj HF
 exact ⟨_, rfl, h7, S9, _, _, rfl, rfl, rfl⟩
theorem ok_strings_CutPrefix (k : Nat) : Zep (Zai k) := s_strings_CutPrefix k
def C_lexis_isTime (φ : ByteArray → Option Bool) : Prop := ∀ ⦃x1 : ByteArray⦄ ⦃r : Bool⦄, φ x1 = some r → ∀ ⦃w0 : World⦄ ⦃h0 : Hp⦄, Sub h0 w0 →
  Calls Tryz.prog 91 #[.string x1] w0 fun e w1 => ∃ v, e = .returned v ∧ ∃ h1, Stp [] w0 h0 w1 h1 ∧ v = .bool r
theorem s_lexis_isTime (k : Nat) : C_lexis_isTime (Zg3 k) := by
 intro x1 r HF w0 h0  hs0 
 have S0 : Stp [] w0 h0 w0 h0 := Stp.refl hs0 _
 refine Z4j (n := 15) Tryz.func91 rfl Tryz.ntmps91 rfl [(0, .string x1)] rfl <| Zb <| Z1 <| Wa rfl rfl <| Z7 <| Z6 <| Zb <| Z1 <| Wm rfl rfl ?_
 obtain ⟨r2, hr3, HF⟩ := Z8 HF
 refine Wc rfl (Ze (vs := [.string x1, .string b'21]) rfl t_ent_152) (ok_strings_CutPrefix _ hr3 S0.sub) ?_
 rintro _ w5 ⟨h6, s7, _, _, rfl, rfl, rfl⟩
 have S8 := S0.trans0 s7
 refine Wm rfl rfl <| Wv rfl (Z0c rfl rfl) <| Wv rfl (Z0c rfl rfl) <| Wa rfl rfl <| Wa rfl rfl <| Z7 <| Z6 <| Zb <| Z1 <| Wm rfl rfl <| Wm rfl rfl <| Z3g 11 HF rfl (fun HF => ?_) (fun HF => ?_)
 ·refine Wm rfl rfl ?_
  obtain ⟨r10, hr11, HF⟩ := Z8 HF
  refine Wc rfl (Ze (vs := [.string r2.1, vi 2147483647]) rfl t_ent_90) (Zb7 _ hr11 S8.sub) ?_
  rintro _ w13 ⟨h14, s15, rfl⟩
  have S16 := S8.trans0 s15
  refine Wv rfl (Zh rfl rfl) <| Wa rfl rfl <| Z7 <| Z6 <| Z00 <| Zt rfl rfl ?_
  obtain rfl := Option.some.inj HF
  exact ⟨_, rfl, h14, S16, rfl⟩
 refine Wp rfl <| Wp rfl <| Wv rfl (Zg rfl rfl) <| Wa rfl rfl <| Z7 <| Z6 <| Z00 <| Zt rfl rfl ?_
 obtain rfl := Option.some.inj HF
 exact ⟨_, rfl, h6, S8, rfl⟩
theorem ok_lexis_isTime (k : Nat) : C_lexis_isTime (Zg3 k) := s_lexis_isTime k
def Zd9 (φ : ByteArray → Int → Option (Tok × Int)) : Prop := ∀ ⦃x3 : ByteArray⦄ ⦃x4 : Int⦄ ⦃r : Tok × Int⦄, φ x3 x4 = some r → ∀ ⦃w0 : World⦄ ⦃h0 : Hp⦄ ⦃b1 : Nat⦄ ⦃T2 : Nat⦄, Sub h0 w0 → OB w0 h0 b1 T2 [.string x3, .int .i64 x4] →
  Calls Tryz.prog 69 #[.pointer (some ⟨b1, 0, none⟩)] w0 fun e w1 => ∃ v, e = .returned v ∧ ∃ h1, Stp [] w0 h0 w1 h1 ∧ (∃ u0 u1 : Value, v = .tuple #[u0, u1] ∧ (∃ cs : List Value, u0 = .agg cs.toArray ∧ Rp.R h1 r.1 cs) ∧ (u1 = .int .i64 r.2))
theorem s_lexis_scanner_time (k : Nat) : Zd9 (Z9c k) := by
 intro x3 x4 r HF w0 h0 b1 T2 hs0 ob5
 have S0 : Stp [] w0 h0 w0 h0 := Stp.refl hs0 _
 have lt6 : b1 < w0.heap.size := OB.lt ob5
 refine Z4j (n := 13) Tryz.func69 rfl Tryz.ntmps69 rfl [(0, pt b1 0)] rfl <| Zb <| Z1 <| Z15 (zs := [vi 0, .string b'47, vi 0]) rfl rfl Z60 rfl S0.sub (fun w7 b8 hb9 s10 ob11 => ?_)
 have ne12 : b1 ≠ b8 := ob5.ne_new hb9
 have g13 : w0.heap.size ≤ b8 := by rw [hb9]; exact S0.size
 have S14 := S0.trans0 s10
 refine Wa rfl rfl <| Z7 <| Z6 <| Zb <| Z1 <| Wm rfl rfl ?_
 have ob15 := (ob5.step0 s10)
 obtain ⟨r16, hr17, HF⟩ := Z8 HF
 refine Wc rfl (Ze (vs := [pt b1 0, vi 2, .func (.func 72) #[] #[]]) rfl t_ent_125) (Zck _ hr17 S14.sub ob15) ?_
 rintro _ w19 ⟨h20, s21, rfl⟩
 have S22 := S14.trans0 s21
 refine Wa rfl rfl <| Z7 <| Z6 <| Zb <| Z1 <| Wm rfl rfl <| Wm rfl rfl ?_
 obtain ⟨r23, hr24, HF⟩ := Z8 HF
 refine Wc rfl (Ze (vs := [.string r16]) rfl t_ent_91) (ok_lexis_isTime _ hr24 S22.sub) ?_
 rintro _ w26 ⟨h27, s28, rfl⟩
 have S29 := S22.trans0 s28
 obtain ⟨r30, hr31, HF⟩ := Z8 HF
 refine Wc rfl (Ze (vs := [vi 3, .string r16, .bool r23]) rfl t_ent_123) (Z8k _ hr31 S29.sub) ?_
 rintro _ w33 ⟨h34, s35, _, _, rfl, ⟨cs36, rfl, r37⟩, rfl⟩
 have S38 := S29.trans0 s35
 refine Wv rfl (Z0c rfl rfl) <| Wv rfl (Z0c rfl rfl) ?_
 have ob39 := (((ob11.step0 s21).step0 s28).step0 s35)
 obtain rfl := Z62.1 r37
 refine Zo (vs := [vi r30.1.kind, .string r30.1.text, vi r30.1.pos]) rfl rfl rfl rfl Z1o (Z5 rfl (Z5 rfl (Z5 rfl Zx))) ob39 S38.sub (by simp) (ds := [vi r30.1.kind, .string r30.1.text, vi r30.1.pos]) rfl (fun w40 s41 ob42 => ?_)
 have S43 := S38.trans1 s41 (.inr g13)
 refine Wa rfl rfl <| Z7 <| Z6 <| Z00 <| Zgy (rg2 rfl (Z5k rfl (Z11 (cs := [vi r30.1.kind, .string r30.1.text, vi r30.1.pos]) Z80 Z1o (OB.cells ob42 0 rfl))) (ri_tmp rfl)) ?_
 obtain rfl := Option.some.inj HF
 exact ⟨_, rfl, h34, S43, _, _, rfl, ⟨_, rfl, (Z62.2 rfl)⟩, rfl⟩
theorem ok_lexis_scanner_time (k : Nat) : Zd9 (Z9c k) := s_lexis_scanner_time k
def Zeh (φ : ByteArray → ByteArray → Option Bool) : Prop := ∀ ⦃x1 : ByteArray⦄ ⦃x2 : ByteArray⦄ ⦃r : Bool⦄, φ x1 x2 = some r → ∀ ⦃w0 : World⦄ ⦃h0 : Hp⦄, Sub h0 w0 →
  Calls Tryz.prog 68 #[.string x1, .string x2] w0 fun e w1 => ∃ v, e = .returned v ∧ ∃ h1, Stp [] w0 h0 w1 h1 ∧ v = .bool r
theorem s_strings_HasPrefix (k : Nat) : Zeh (Z7v k) := by
 intro x1 x2 r HF w0 h0  hs0 
 have S0 : Stp [] w0 h0 w0 h0 := Stp.refl hs0 _
 refine Z4j (n := 8) Tryz.func68 rfl Tryz.ntmps68 rfl [(0, .string x1), (1, .string x2)] rfl <| Zb <| Z1 <| Wa rfl rfl <| Z7 <| Z6 <| Zb <| Z1 <| Wm rfl rfl <| Wm rfl rfl ?_
 obtain ⟨r3, hr4, HF⟩ := Z8 HF
 refine Wc rfl (Ze (vs := [.string x1, .string x2]) rfl t_ent_124) (Z6b _ hr4 S0.sub) ?_
 rintro _ w6 ⟨h7, s8, rfl⟩
 have S9 := S0.trans0 s8
 refine Wa rfl rfl <| Z7 <| Z6 <| Z00 <| Zt rfl rfl ?_
 obtain rfl := Option.some.inj HF
 exact ⟨_, rfl, h7, S9, rfl⟩
theorem Zdl (k : Nat) : Zeh (Z7v k) := s_strings_HasPrefix k
def Z7a (φ : ByteArray → Int → Option Int) : Prop := ∀ ⦃x3 : ByteArray⦄ ⦃x4 : Int⦄ ⦃r : Int⦄, φ x3 x4 = some r → ∀ ⦃w0 : World⦄ ⦃h0 : Hp⦄ ⦃b1 : Nat⦄ ⦃T2 : Nat⦄, Sub h0 w0 → OB w0 h0 b1 T2 [.string x3, .int .i64 x4] →
  Calls Tryz.prog 66 #[.pointer (some ⟨b1, 0, none⟩)] w0 fun e w1 => ∃ v, e = .returned v ∧ ∃ h1, Stp [b1] w0 h0 w1 h1 ∧ v = .tuple #[] ∧ (OB w1 h1 b1 T2 [.string x3, .int .i64 r])
theorem s_lexis_scanner_skip (k : Nat) (IH : ∀ j, j ≤ k → Z7a (Z13 j).lexis_scanner_skip) : Z7a (Ze2 k (Z13 k)) := by
 intro x3 x4 r HF w0 h0 b1 T2 hs0 ob5
 have S0 : Stp [b1] w0 h0 w0 h0 := Stp.refl hs0 _
 have lt6 : b1 < w0.heap.size := OB.lt ob5
 refine Z4j (n := 84) Tryz.func66 rfl Tryz.ntmps66 rfl [(0, pt b1 0)] rfl <| Z0p <| Z4m <| Z7y [0] [(0, pt b1 0)] rfl <| Z4k (K := k) (fun j E w8 => ∃ (h7 : Hp) (x11 : Int), (Z13 j).lexis_scanner_skip_l1 x3 x11 = some r ∧ E = [(0, pt b1 0)] ∧ Stp [b1] w0 h0 w8 h7 ∧ Hle h0 h7 ∧ OB w8 h7 b1 T2 [.string x3, vi x11]) ?_ ?_ (j := k) (Nat.le_refl _) ?_
 ·rintro E w8 ⟨_, _, HF, _⟩; cases HF
 ·rintro j13 hj15 IHL14 E w8 ⟨h7, x11, HF, rfl, S10, le9, ob12⟩
  refine Z09 (fun E w25 => ∃ (h24 : Hp), Zcr j13 (Z13 j13) x3 x11 = some r ∧ E = [(0, pt b1 0)] ∧ Stp [b1] w0 h0 w25 h24 ∧ Hle h7 h24 ∧ OB w25 h24 b1 T2 [.string x3, vi x11]) ?_ ?_
  ·rintro E w25 ⟨h24, HF, rfl, S27, le26, ob28⟩
   refine Z0p <| Zb <| Z2x (m := 8) [(0, pt b1 0)] [0] rfl (fun i v w h => match i with | 0 => v = pt b1 0 | 1 => v = pt b1 0 | 2 => v = pt b1 0 | 3 => v = .string x3 | 4 => v = pt b1 0 | 5 => v = pt b1 0 | 6 => v = pt b1 1 | 7 => v = vi x11 | _ => True) Z3f S27.sub rfl rfl rfl rfl rfl ?_ ?_ ?_
   ·intro i v w h w2 h2 hΦ hst
    match i, hΦ with
    | 0, hΦ | 1, hΦ | 2, hΦ | 3, hΦ | 4, hΦ | 5, hΦ | 6, hΦ | 7, hΦ => exact hΦ
    | i + 8, _ => exact trivial
   ·refine ⟨?_, ?_, ?_, ?_, ?_, ?_, ?_, ?_, trivial⟩
    ·intro a w29 h30 s31 hat hF
     exact Z3 hat rfl (Zu rfl) s31.sub (by exact rfl)
    ·intro a w29 h30 s31 hat hF
     exact Z3 (Z0 hat (hF 0 13 rfl rfl)) rfl (Zs rfl) s31.sub (by exact rfl)
    ·intro a w29 h30 s31 hat hF
     exact Z3 (Z0 hat (hF 1 14 rfl rfl)) rfl (Z2 rfl Z1w) s31.sub (by exact rfl)
    ·intro a w29 h30 s31 hat hF
     have ob32 := (ob28.step0 s31)
     exact Z3 (Z0 hat (hF 2 15 rfl rfl)) rfl (Zc rfl Z2r (OB.cell ob32 (j := 0) rfl)) s31.sub (by exact rfl)
    ·intro a w29 h30 s31 hat hF
     exact Z3 hat rfl (Zu rfl) s31.sub (by exact rfl)
    ·intro a w29 h30 s31 hat hF
     exact Z3 (Z0 hat (hF 4 17 rfl rfl)) rfl (Zs rfl) s31.sub (by exact rfl)
    ·intro a w29 h30 s31 hat hF
     exact Z3 (Z0 hat (hF 5 18 rfl rfl)) rfl (Z2 rfl Z0q) s31.sub (by exact rfl)
    intro a w29 h30 s31 hat hF
    have ob33 := (ob28.step0 s31)
    exact Z3 (Z0 hat (hF 6 19 rfl rfl)) rfl (Zc rfl Z0f (OB.cell ob33 (j := 1) rfl)) s31.sub (by exact rfl)
   intro a w29 h30 s31 hat hF
   obtain hv0 := hF 0 13 (by decide) rfl
   obtain hv1 := hF 1 14 (by decide) rfl
   obtain hv2 := hF 2 15 (by decide) rfl
   obtain hv3 := hF 3 16 (by decide) rfl
   obtain hv4 := hF 4 17 (by decide) rfl
   obtain hv5 := hF 5 18 (by decide) rfl
   obtain hv6 := hF 6 19 (by decide) rfl
   obtain hv7 := hF 7 20 (by decide) rfl
   refine Z7z [(20, vi x11), (19, pt b1 1), (18, pt b1 0), (17, pt b1 0), (16, .string x3), (15, pt b1 0), (14, pt b1 0), (13, pt b1 0), (0, pt b1 0)] (Z0 (Z0 (Z0 (Z0 (Z0 (Z0 (Z0 (Z0 hat hv0) hv1) hv2) hv3) hv4) hv5) hv6) hv7) ?_
   have S34 := S27.trans0 s31
   obtain ⟨c35, hc36, HF⟩ := Z8 HF
   refine Wv rfl (Z93 rfl rfl Z08 hc36) <| Wa rfl rfl <| Z7 <| Z6 <| Z0p <| Z09 (fun E w41 => ∃ (h40 : Hp) (x44 : Bool), Z4o j13 (Z13 j13) x3 x11 x44 = some r ∧ E = [(0, pt b1 0), (22, .bool x44)] ∧ Stp [b1] w0 h0 w41 h40 ∧ Hle h30 h40 ∧ OB w41 h40 b1 T2 [.string x3, vi x11]) ?_ ?_
   ·rintro E w41 ⟨h40, x44, HF, rfl, S43, le42, ob45⟩
    refine Z17 HF rfl (fun HF => ?_) (fun HF => ?_)
    ·refine Z1 <| Wm rfl rfl <| Wv rfl (Zs rfl) <| Wv rfl (Z2 rfl Z0q) <| Wv rfl (Zc rfl Z0f (OB.cell ob45 (j := 1) rfl)) <| Wv rfl (Z3n rfl rfl) <| Wv rfl (Zs rfl) <| Wv rfl (Z2 rfl Z0q) <| Zo (vs := [vi (IntKind.i64.wrap (x11 + 1))]) rfl rfl rfl rfl Z1p (Z5 rfl Zx) ob45 S43.sub (by simp) (ds := [.string x3, vi (IntKind.i64.wrap (x11 + 1))]) rfl (fun w47 s48 ob49 => ?_)
     have S50 := S43.trans1 s48 (.inl (by simp))
     refine Z7 <| Z0a <| Z0a <| Z2c <| Z7y [0] [(0, pt b1 0)] rfl ?_
     exact IHL14 j13 (Nat.le_refl _) _ _ ⟨h40, IntKind.i64.wrap (x11 + 1), HF, rfl, S50, (le9).trans ((le26).trans ((s31.le).trans ((le42).trans s48.le))), ob49⟩
    refine Zb <| Z2x (m := 8) [(0, pt b1 0)] [0] rfl (fun i v w h => match i with | 0 => v = pt b1 0 | 1 => v = pt b1 0 | 2 => v = pt b1 0 | 3 => v = .string x3 | 4 => v = pt b1 0 | 5 => v = pt b1 0 | 6 => v = pt b1 1 | 7 => v = vi x11 | _ => True) Z3f S43.sub rfl rfl rfl rfl rfl ?_ ?_ ?_
    ·intro i v w h w2 h2 hΦ hst
     match i, hΦ with
     | 0, hΦ | 1, hΦ | 2, hΦ | 3, hΦ | 4, hΦ | 5, hΦ | 6, hΦ | 7, hΦ => exact hΦ
     | i + 8, _ => exact trivial
    ·refine ⟨?_, ?_, ?_, ?_, ?_, ?_, ?_, ?_, trivial⟩
     ·intro a w51 h52 s53 hat hF
      exact Z3 hat rfl (Zu rfl) s53.sub (by exact rfl)
     ·intro a w51 h52 s53 hat hF
      exact Z3 (Z0 hat (hF 0 45 rfl rfl)) rfl (Zs rfl) s53.sub (by exact rfl)
     ·intro a w51 h52 s53 hat hF
      exact Z3 (Z0 hat (hF 1 46 rfl rfl)) rfl (Z2 rfl Z1w) s53.sub (by exact rfl)
     ·intro a w51 h52 s53 hat hF
      have ob54 := (ob45.step0 s53)
      exact Z3 (Z0 hat (hF 2 47 rfl rfl)) rfl (Zc rfl Z2r (OB.cell ob54 (j := 0) rfl)) s53.sub (by exact rfl)
     ·intro a w51 h52 s53 hat hF
      exact Z3 hat rfl (Zu rfl) s53.sub (by exact rfl)
     ·intro a w51 h52 s53 hat hF
      exact Z3 (Z0 hat (hF 4 49 rfl rfl)) rfl (Zs rfl) s53.sub (by exact rfl)
     ·intro a w51 h52 s53 hat hF
      exact Z3 (Z0 hat (hF 5 50 rfl rfl)) rfl (Z2 rfl Z0q) s53.sub (by exact rfl)
     intro a w51 h52 s53 hat hF
     have ob55 := (ob45.step0 s53)
     exact Z3 (Z0 hat (hF 6 51 rfl rfl)) rfl (Zc rfl Z0f (OB.cell ob55 (j := 1) rfl)) s53.sub (by exact rfl)
    intro a w51 h52 s53 hat hF
    obtain hv0 := hF 0 45 (by decide) rfl
    obtain hv1 := hF 1 46 (by decide) rfl
    obtain hv2 := hF 2 47 (by decide) rfl
    obtain hv3 := hF 3 48 (by decide) rfl
    obtain hv4 := hF 4 49 (by decide) rfl
    obtain hv5 := hF 5 50 (by decide) rfl
    obtain hv6 := hF 6 51 (by decide) rfl
    obtain hv7 := hF 7 52 (by decide) rfl
    refine Z7z [(52, vi x11), (51, pt b1 1), (50, pt b1 0), (49, pt b1 0), (48, .string x3), (47, pt b1 0), (46, pt b1 0), (45, pt b1 0), (0, pt b1 0)] (Z0 (Z0 (Z0 (Z0 (Z0 (Z0 (Z0 (Z0 hat hv0) hv1) hv2) hv3) hv4) hv5) hv6) hv7) ?_
    have S56 := S43.trans0 s53
    obtain ⟨t57, ht58, HF⟩ := Z8 HF
    refine Wv rfl (ov_sliceSL rfl rfl Z08 ht58) ?_
    obtain ⟨r59, hr60, HF⟩ := Z8 HF
    refine Wc rfl (Ze (vs := [.string t57, .string (⟨#[47, 47]⟩ : ByteArray)]) rfl t_ent_68) (Zdl _ hr60 S56.sub) ?_
    rintro _ w62 ⟨h63, s64, rfl⟩
    have S65 := S56.trans0 s64
    refine Wa rfl rfl <| Z7 <| Z6 <| Z17 HF rfl (fun HF => ?_) (fun HF => ?_)
    ·refine Z0p <| Z4m <| Z7y [0] [(0, pt b1 0)] rfl <| Z4k (K := j13) (fun j E w68 => ∃ (h67 : Hp) (x71 : Int), (Z13 j).lexis_scanner_skip_l4 x3 x71 = some r ∧ E = [(0, pt b1 0)] ∧ Stp [b1] w0 h0 w68 h67 ∧ Hle h63 h67 ∧ OB w68 h67 b1 T2 [.string x3, vi x71]) ?_ ?_ (j := j13) (Nat.le_refl _) ?_
     ·rintro E w68 ⟨_, _, HF, _⟩; cases HF
     ·rintro j73 hj75 IHL74 E w68 ⟨h67, x71, HF, rfl, S70, le69, ob72⟩
      refine Z09 (fun E w104 => ∃ (h103 : Hp), Zcm j73 (Z13 j73) x3 x71 = some r ∧ E = [(0, pt b1 0)] ∧ Stp [b1] w0 h0 w104 h103 ∧ Hle h67 h103 ∧ OB w104 h103 b1 T2 [.string x3, vi x71]) ?_ ?_
      ·rintro E w104 ⟨h103, HF, rfl, S106, le105, ob107⟩
       refine Z0p <| Z1 <| Wm rfl rfl <| Wv rfl (Zs rfl) <| Wv rfl (Z2 rfl Z0q) <| Wv rfl (Zc rfl Z0f (OB.cell ob107 (j := 1) rfl)) <| Wv rfl (Z3n rfl rfl) <| Wv rfl (Zs rfl) <| Wv rfl (Z2 rfl Z0q) <| Zo (vs := [vi (IntKind.i64.wrap (x71 + 1))]) rfl rfl rfl rfl Z1p (Z5 rfl Zx) ob107 S106.sub (by simp) (ds := [.string x3, vi (IntKind.i64.wrap (x71 + 1))]) rfl (fun w108 s109 ob110 => ?_)
       have S111 := S106.trans1 s109 (.inl (by simp))
       refine Z7 <| Z0a <| Z2c <| Z7y [0] [(0, pt b1 0)] rfl ?_
       exact IHL74 j73 (Nat.le_refl _) _ _ ⟨h103, IntKind.i64.wrap (x71 + 1), HF, rfl, S111, (le69).trans ((le105).trans s109.le), ob110⟩
      intro J112
      refine Z09 (fun E w94 => ∃ (h93 : Hp) (x97 : Bool), Z8w j73 (Z13 j73) x3 x71 x97 = some r ∧ E = [(0, pt b1 0), (76, .bool x97)] ∧ Stp [b1] w0 h0 w94 h93 ∧ Hle h67 h93 ∧ OB w94 h93 b1 T2 [.string x3, vi x71]) ?_ ?_
      ·rintro E w94 ⟨h93, x97, HF, rfl, S96, le95, ob98⟩
       refine Z17 HF rfl (fun HF => ?_) (fun HF => ?_)
       ·refine Zm <| Z0g [0] _ rfl ?_
        exact J112 ⟨h93, HF, rfl, S96, le95, ob98⟩
       refine Z4x <| Zz <| Zz <| Z1a <| Z0a <| Z0a <| Z2c <| Z7y [0] [(0, pt b1 0)] rfl ?_
       exact IHL14 j73 (Nat.le_trans (Nat.le_of_succ_le hj75) (Nat.le_refl _)) _ _ ⟨h93, x71, HF, rfl, S96, (le9).trans ((le26).trans ((s31.le).trans ((le42).trans ((s53.le).trans ((s64.le).trans ((le69).trans le95)))))), ob98⟩
      intro J100
      refine Z6x (b := decide ((x71 : Int) < (x3.size : Int))) (fun hb76 => ?_) (fun hb76 => ?_)
      ·replace HF := bif_t hb76 HF
       refine Z2x (m := 19) [(0, pt b1 0)] [0] rfl (fun i v w h => match i with | 0 => v = pt b1 0 | 1 => v = pt b1 0 | 2 => v = pt b1 1 | 3 => v = vi x71 | 4 => v = pt b1 0 | 5 => v = pt b1 0 | 6 => v = pt b1 0 | 7 => v = .string x3 | 8 => v = vi (x3.size : Int) | 9 => v = .bool (decide ((x71 : Int) < (x3.size : Int))) | 10 => v = .bool true | 11 => v = pt b1 0 | 12 => v = pt b1 0 | 13 => v = pt b1 0 | 14 => v = .string x3 | 15 => v = pt b1 0 | 16 => v = pt b1 0 | 17 => v = pt b1 1 | 18 => v = vi x71 | _ => True) Z3f S70.sub rfl rfl rfl rfl rfl ?_ ?_ ?_
       ·intro i v w h w2 h2 hΦ hst
        match i, hΦ with
        | 0, hΦ | 1, hΦ | 2, hΦ | 3, hΦ | 4, hΦ | 5, hΦ | 6, hΦ | 7, hΦ | 8, hΦ | 9, hΦ | 10, hΦ | 11, hΦ | 12, hΦ | 13, hΦ | 14, hΦ | 15, hΦ | 16, hΦ | 17, hΦ | 18, hΦ => exact hΦ
        | i + 19, _ => exact trivial
       ·refine ⟨?_, ?_, ?_, ?_, ?_, ?_, ?_, ?_, ?_, ?_, ?_, ?_, ?_, ?_, ?_, ?_, ?_, ?_, ?_, trivial⟩
        ·intro a w77 h78 s79 hat hF
         exact Z3 hat rfl (Zu rfl) s79.sub (by exact rfl)
        ·intro a w77 h78 s79 hat hF
         exact Z3 (Z0 hat (hF 0 55 rfl rfl)) rfl (Zs rfl) s79.sub (by exact rfl)
        ·intro a w77 h78 s79 hat hF
         exact Z3 (Z0 hat (hF 1 56 rfl rfl)) rfl (Z2 rfl Z0q) s79.sub (by exact rfl)
        ·intro a w77 h78 s79 hat hF
         have ob80 := (ob72.step0 s79)
         exact Z3 (Z0 hat (hF 2 57 rfl rfl)) rfl (Zc rfl Z0f (OB.cell ob80 (j := 1) rfl)) s79.sub (by exact rfl)
        ·intro a w77 h78 s79 hat hF
         exact Z3 hat rfl (Zu rfl) s79.sub (by exact rfl)
        ·intro a w77 h78 s79 hat hF
         exact Z3 (Z0 hat (hF 4 59 rfl rfl)) rfl (Zs rfl) s79.sub (by exact rfl)
        ·intro a w77 h78 s79 hat hF
         exact Z3 (Z0 hat (hF 5 60 rfl rfl)) rfl (Z2 rfl Z1w) s79.sub (by exact rfl)
        ·intro a w77 h78 s79 hat hF
         have ob81 := (ob72.step0 s79)
         exact Z3 (Z0 hat (hF 6 61 rfl rfl)) rfl (Zc rfl Z2r (OB.cell ob81 (j := 0) rfl)) s79.sub (by exact rfl)
        ·intro a w77 h78 s79 hat hF
         exact Z3 (Z0 hat (hF 7 62 rfl rfl)) rfl (Z95 rfl Z08) s79.sub (by exact rfl)
        ·intro a w77 h78 s79 hat hF
         exact Z3 (Z0 (Z0 hat (hF 3 58 rfl rfl)) (hF 8 63 rfl rfl)) rfl (Zbt rfl rfl) s79.sub (by exact rfl)
        ·intro a w77 h78 s79 hat hF
         exact Z3 (Z0 hat (hF 9 64 rfl rfl)) rfl (Zci (Zu rfl) hb76) s79.sub (by exact rfl)
        ·intro a w77 h78 s79 hat hF
         exact Z3 (Z0 hat (hF 10 65 rfl rfl)) rfl (Zu rfl) s79.sub (by exact rfl)
        ·intro a w77 h78 s79 hat hF
         exact Z3 (Z0 (Z0 hat (hF 10 65 rfl rfl)) (hF 11 66 rfl rfl)) rfl (Zs rfl) s79.sub (by exact rfl)
        ·intro a w77 h78 s79 hat hF
         exact Z3 (Z0 (Z0 hat (hF 10 65 rfl rfl)) (hF 12 67 rfl rfl)) rfl (Z2 rfl Z1w) s79.sub (by exact rfl)
        ·intro a w77 h78 s79 hat hF
         have ob82 := (ob72.step0 s79)
         exact Z3 (Z0 (Z0 hat (hF 10 65 rfl rfl)) (hF 13 68 rfl rfl)) rfl (Zc rfl Z2r (OB.cell ob82 (j := 0) rfl)) s79.sub (by exact rfl)
        ·intro a w77 h78 s79 hat hF
         exact Z3 (Z0 hat (hF 10 65 rfl rfl)) rfl (Zu rfl) s79.sub (by exact rfl)
        ·intro a w77 h78 s79 hat hF
         exact Z3 (Z0 (Z0 hat (hF 10 65 rfl rfl)) (hF 15 70 rfl rfl)) rfl (Zs rfl) s79.sub (by exact rfl)
        ·intro a w77 h78 s79 hat hF
         exact Z3 (Z0 (Z0 hat (hF 10 65 rfl rfl)) (hF 16 71 rfl rfl)) rfl (Z2 rfl Z0q) s79.sub (by exact rfl)
        intro a w77 h78 s79 hat hF
        have ob83 := (ob72.step0 s79)
        exact Z3 (Z0 (Z0 hat (hF 10 65 rfl rfl)) (hF 17 72 rfl rfl)) rfl (Zc rfl Z0f (OB.cell ob83 (j := 1) rfl)) s79.sub (by exact rfl)
       intro a w77 h78 s79 hat hF
       obtain hv0 := hF 0 55 (by decide) rfl
       obtain hv1 := hF 1 56 (by decide) rfl
       obtain hv2 := hF 2 57 (by decide) rfl
       obtain hv3 := hF 3 58 (by decide) rfl
       obtain hv4 := hF 4 59 (by decide) rfl
       obtain hv5 := hF 5 60 (by decide) rfl
       obtain hv6 := hF 6 61 (by decide) rfl
       obtain hv7 := hF 7 62 (by decide) rfl
       obtain hv8 := hF 8 63 (by decide) rfl
       obtain hv9 := hF 9 64 (by decide) rfl
       obtain hv10 := hF 10 65 (by decide) rfl
       obtain hv11 := hF 11 66 (by decide) rfl
       obtain hv12 := hF 12 67 (by decide) rfl
       obtain hv13 := hF 13 68 (by decide) rfl
       obtain hv14 := hF 14 69 (by decide) rfl
       obtain hv15 := hF 15 70 (by decide) rfl
       obtain hv16 := hF 16 71 (by decide) rfl
       obtain hv17 := hF 17 72 (by decide) rfl
       obtain hv18 := hF 18 73 (by decide) rfl
       refine Z7z [(73, vi x71), (72, pt b1 1), (71, pt b1 0), (70, pt b1 0), (69, .string x3), (68, pt b1 0), (67, pt b1 0), (66, pt b1 0), (65, .bool true), (64, .bool (decide ((x71 : Int) < (x3.size : Int)))), (63, vi (x3.size : Int)), (62, .string x3), (61, pt b1 0), (60, pt b1 0), (59, pt b1 0), (58, vi x71), (57, pt b1 1), (56, pt b1 0), (55, pt b1 0), (0, pt b1 0)] (Z0 (Z0 (Z0 (Z0 (Z0 (Z0 (Z0 (Z0 (Z0 (Z0 (Z0 (Z0 (Z0 (Z0 (Z0 (Z0 (Z0 (Z0 (Z0 hat hv0) hv1) hv2) hv3) hv4) hv5) hv6) hv7) hv8) hv9) hv10) hv11) hv12) hv13) hv14) hv15) hv16) hv17) hv18) ?_
       have S84 := S70.trans0 s79
       obtain ⟨c85, hc86, HF⟩ := Z8 HF
       refine Wv rfl (Z93 rfl rfl Z08 hc86) <| Wv rfl (Z7e rfl rfl) <| Wv rfl (Zh rfl rfl) <| Z7 ?_
       have ob101 := (ob72.step0 s79)
       refine Z0g [0, 76] _ rfl ?_
       exact J100 ⟨h78, (c85 : Int) != 10, HF, rfl, S84, s79.le, ob101⟩
      replace HF := bif_f hb76 HF
      refine Z2x (m := 19) [(0, pt b1 0)] [0] rfl (fun i v w h => match i with | 0 => v = pt b1 0 | 1 => v = pt b1 0 | 2 => v = pt b1 1 | 3 => v = vi x71 | 4 => v = pt b1 0 | 5 => v = pt b1 0 | 6 => v = pt b1 0 | 7 => v = .string x3 | 8 => v = vi (x3.size : Int) | 9 => v = .bool (decide ((x71 : Int) < (x3.size : Int))) | 10 => v = .bool false | 11 => v = undef | 12 => v = undef | 13 => v = undef | 14 => v = undef | 15 => v = undef | 16 => v = undef | 17 => v = undef | 18 => v = undef | _ => True) Z3f S70.sub rfl rfl rfl rfl rfl ?_ ?_ ?_
      ·intro i v w h w2 h2 hΦ hst
       match i, hΦ with
       | 0, hΦ | 1, hΦ | 2, hΦ | 3, hΦ | 4, hΦ | 5, hΦ | 6, hΦ | 7, hΦ | 8, hΦ | 9, hΦ | 10, hΦ | 11, hΦ | 12, hΦ | 13, hΦ | 14, hΦ | 15, hΦ | 16, hΦ | 17, hΦ | 18, hΦ => exact hΦ
       | i + 19, _ => exact trivial
      ·refine ⟨?_, ?_, ?_, ?_, ?_, ?_, ?_, ?_, ?_, ?_, ?_, ?_, ?_, ?_, ?_, ?_, ?_, ?_, ?_, trivial⟩
       ·intro a w87 h88 s89 hat hF
        exact Z3 hat rfl (Zu rfl) s89.sub (by exact rfl)
       ·intro a w87 h88 s89 hat hF
        exact Z3 (Z0 hat (hF 0 55 rfl rfl)) rfl (Zs rfl) s89.sub (by exact rfl)
       ·intro a w87 h88 s89 hat hF
        exact Z3 (Z0 hat (hF 1 56 rfl rfl)) rfl (Z2 rfl Z0q) s89.sub (by exact rfl)
       ·intro a w87 h88 s89 hat hF
        have ob90 := (ob72.step0 s89)
        exact Z3 (Z0 hat (hF 2 57 rfl rfl)) rfl (Zc rfl Z0f (OB.cell ob90 (j := 1) rfl)) s89.sub (by exact rfl)
       ·intro a w87 h88 s89 hat hF
        exact Z3 hat rfl (Zu rfl) s89.sub (by exact rfl)
       ·intro a w87 h88 s89 hat hF
        exact Z3 (Z0 hat (hF 4 59 rfl rfl)) rfl (Zs rfl) s89.sub (by exact rfl)
       ·intro a w87 h88 s89 hat hF
        exact Z3 (Z0 hat (hF 5 60 rfl rfl)) rfl (Z2 rfl Z1w) s89.sub (by exact rfl)
       ·intro a w87 h88 s89 hat hF
        have ob91 := (ob72.step0 s89)
        exact Z3 (Z0 hat (hF 6 61 rfl rfl)) rfl (Zc rfl Z2r (OB.cell ob91 (j := 0) rfl)) s89.sub (by exact rfl)
       ·intro a w87 h88 s89 hat hF
        exact Z3 (Z0 hat (hF 7 62 rfl rfl)) rfl (Z95 rfl Z08) s89.sub (by exact rfl)
       ·intro a w87 h88 s89 hat hF
        exact Z3 (Z0 (Z0 hat (hF 3 58 rfl rfl)) (hF 8 63 rfl rfl)) rfl (Zbt rfl rfl) s89.sub (by exact rfl)
       ·intro a w87 h88 s89 hat hF
        exact Z3 (Z0 hat (hF 9 64 rfl rfl)) rfl (Zci (Zu rfl) hb76) s89.sub (by exact rfl)
       ·intro a w87 h88 s89 hat hF
        exact Zv (Z0 hat (hF 10 65 rfl rfl)) rfl (by exact rfl)
       ·intro a w87 h88 s89 hat hF
        exact Zv (Z0 (Z0 hat (hF 10 65 rfl rfl)) (hF 11 66 rfl rfl)) rfl (by exact rfl)
       ·intro a w87 h88 s89 hat hF
        exact Zv (Z0 (Z0 hat (hF 10 65 rfl rfl)) (hF 12 67 rfl rfl)) rfl (by exact rfl)
       ·intro a w87 h88 s89 hat hF
        exact Zv (Z0 (Z0 hat (hF 10 65 rfl rfl)) (hF 13 68 rfl rfl)) rfl (by exact rfl)
       ·intro a w87 h88 s89 hat hF
        exact Zv (Z0 hat (hF 10 65 rfl rfl)) rfl (by exact rfl)
       ·intro a w87 h88 s89 hat hF
        exact Zv (Z0 (Z0 hat (hF 10 65 rfl rfl)) (hF 15 70 rfl rfl)) rfl (by exact rfl)
       ·intro a w87 h88 s89 hat hF
        exact Zv (Z0 (Z0 hat (hF 10 65 rfl rfl)) (hF 16 71 rfl rfl)) rfl (by exact rfl)
       intro a w87 h88 s89 hat hF
       exact Zv (Z0 (Z0 hat (hF 10 65 rfl rfl)) (hF 17 72 rfl rfl)) rfl (by exact rfl)
      intro a w87 h88 s89 hat hF
      obtain hv0 := hF 0 55 (by decide) rfl
      obtain hv1 := hF 1 56 (by decide) rfl
      obtain hv2 := hF 2 57 (by decide) rfl
      obtain hv3 := hF 3 58 (by decide) rfl
      obtain hv4 := hF 4 59 (by decide) rfl
      obtain hv5 := hF 5 60 (by decide) rfl
      obtain hv6 := hF 6 61 (by decide) rfl
      obtain hv7 := hF 7 62 (by decide) rfl
      obtain hv8 := hF 8 63 (by decide) rfl
      obtain hv9 := hF 9 64 (by decide) rfl
      obtain hv10 := hF 10 65 (by decide) rfl
      obtain hv11 := hF 11 66 (by decide) rfl
      obtain hv12 := hF 12 67 (by decide) rfl
      obtain hv13 := hF 13 68 (by decide) rfl
      obtain hv14 := hF 14 69 (by decide) rfl
      obtain hv15 := hF 15 70 (by decide) rfl
      obtain hv16 := hF 16 71 (by decide) rfl
      obtain hv17 := hF 17 72 (by decide) rfl
      obtain hv18 := hF 18 73 (by decide) rfl
      refine Z7z [(73, undef), (72, undef), (71, undef), (70, undef), (69, undef), (68, undef), (67, undef), (66, undef), (65, .bool false), (64, .bool (decide ((x71 : Int) < (x3.size : Int)))), (63, vi (x3.size : Int)), (62, .string x3), (61, pt b1 0), (60, pt b1 0), (59, pt b1 0), (58, vi x71), (57, pt b1 1), (56, pt b1 0), (55, pt b1 0), (0, pt b1 0)] (Z0 (Z0 (Z0 (Z0 (Z0 (Z0 (Z0 (Z0 (Z0 (Z0 (Z0 (Z0 (Z0 (Z0 (Z0 (Z0 (Z0 (Z0 (Z0 hat hv0) hv1) hv2) hv3) hv4) hv5) hv6) hv7) hv8) hv9) hv10) hv11) hv12) hv13) hv14) hv15) hv16) hv17) hv18) ?_
      have S92 := S70.trans0 s89
      refine Wp rfl <| Wp rfl <| Wv rfl (Zg rfl rfl) <| Z7 ?_
      have ob102 := (ob72.step0 s89)
      refine Z0g [0, 76] _ rfl ?_
      exact J100 ⟨h88, false, HF, rfl, S92, s89.le, ob102⟩
     have ob113 := ((ob45.step0 s53).step0 s64)
     exact ⟨h63, x11, HF, rfl, S65, Hle.refl _, ob113⟩
    refine Z00 <| Zy <| Zy <| Zi <| Zy ?_
    have ob114 := ((ob45.step0 s53).step0 s64)
    refine WQ.ret0 rfl ?_
    obtain rfl := Option.some.inj HF
    exact ⟨_, rfl, h63, S65, rfl, ob114⟩
   intro J115
   refine Z1 <| Wm rfl rfl <| Wv rfl (Z4n rfl rfl) <| Wm rfl rfl <| Z3g 25 HF rfl (fun HF => ?_) (fun HF => ?_)
   ·refine Wp rfl <| Wp rfl <| Wv rfl (Zh rfl rfl) <| Wm rfl rfl <| Wp rfl <| Wp rfl <| Wv rfl (Zh rfl rfl) <| Wm rfl rfl <| Wp rfl <| Wp rfl <| Wv rfl (Zh rfl rfl) <| Wa rfl rfl <| Z7 ?_
    have ob116 := (ob28.step0 s31)
    refine Z0g [0, 22] _ rfl ?_
    exact J115 ⟨h30, true, HF, rfl, S34, Hle.refl _, ob116⟩
   refine Wm rfl rfl <| Wv rfl (Z4n rfl rfl) <| Wv rfl (Zg rfl rfl) <| Wm rfl rfl <| Z3g 29 HF rfl (fun HF => ?_) (fun HF => ?_)
   ·refine Wp rfl <| Wp rfl <| Wv rfl (Zh rfl rfl) <| Wm rfl rfl <| Wp rfl <| Wp rfl <| Wv rfl (Zh rfl rfl) <| Wa rfl rfl <| Z7 ?_
    have ob117 := (ob28.step0 s31)
    refine Z0g [0, 22] _ rfl ?_
    exact J115 ⟨h30, true, HF, rfl, S34, Hle.refl _, ob117⟩
   refine Wm rfl rfl <| Wv rfl (Z4n rfl rfl) <| Wv rfl (Zg rfl rfl) <| Wm rfl rfl <| Z3g 33 HF rfl (fun HF => ?_) (fun HF => ?_)
   ·refine Wp rfl <| Wp rfl <| Wv rfl (Zh rfl rfl) <| Wa rfl rfl <| Z7 ?_
    have ob118 := (ob28.step0 s31)
    refine Z0g [0, 22] _ rfl ?_
    exact J115 ⟨h30, true, HF, rfl, S34, Hle.refl _, ob118⟩
   refine Wm rfl rfl <| Wv rfl (Z4n rfl rfl) <| Wv rfl (Zg rfl rfl) <| Wa rfl rfl <| Z7 ?_
   have ob119 := (ob28.step0 s31)
   refine Z0g [0, 22] _ rfl ?_
   exact J115 ⟨h30, (c35 : Int) == 13, HF, rfl, S34, Hle.refl _, ob119⟩
  intro J120
  refine Zb <| Z2x (m := 9) [(0, pt b1 0)] [0] rfl (fun i v w h => match i with | 0 => v = pt b1 0 | 1 => v = pt b1 0 | 2 => v = pt b1 1 | 3 => v = vi x11 | 4 => v = pt b1 0 | 5 => v = pt b1 0 | 6 => v = pt b1 0 | 7 => v = .string x3 | 8 => v = vi (x3.size : Int) | _ => True) Z3f S10.sub rfl rfl rfl rfl rfl ?_ ?_ ?_
  ·intro i v w h w2 h2 hΦ hst
   match i, hΦ with
   | 0, hΦ | 1, hΦ | 2, hΦ | 3, hΦ | 4, hΦ | 5, hΦ | 6, hΦ | 7, hΦ | 8, hΦ => exact hΦ
   | i + 9, _ => exact trivial
  ·refine ⟨?_, ?_, ?_, ?_, ?_, ?_, ?_, ?_, ?_, trivial⟩
   ·intro a w16 h17 s18 hat hF
    exact Z3 hat rfl (Zu rfl) s18.sub (by exact rfl)
   ·intro a w16 h17 s18 hat hF
    exact Z3 (Z0 hat (hF 0 3 rfl rfl)) rfl (Zs rfl) s18.sub (by exact rfl)
   ·intro a w16 h17 s18 hat hF
    exact Z3 (Z0 hat (hF 1 4 rfl rfl)) rfl (Z2 rfl Z0q) s18.sub (by exact rfl)
   ·intro a w16 h17 s18 hat hF
    have ob19 := (ob12.step0 s18)
    exact Z3 (Z0 hat (hF 2 5 rfl rfl)) rfl (Zc rfl Z0f (OB.cell ob19 (j := 1) rfl)) s18.sub (by exact rfl)
   ·intro a w16 h17 s18 hat hF
    exact Z3 hat rfl (Zu rfl) s18.sub (by exact rfl)
   ·intro a w16 h17 s18 hat hF
    exact Z3 (Z0 hat (hF 4 7 rfl rfl)) rfl (Zs rfl) s18.sub (by exact rfl)
   ·intro a w16 h17 s18 hat hF
    exact Z3 (Z0 hat (hF 5 8 rfl rfl)) rfl (Z2 rfl Z1w) s18.sub (by exact rfl)
   ·intro a w16 h17 s18 hat hF
    have ob20 := (ob12.step0 s18)
    exact Z3 (Z0 hat (hF 6 9 rfl rfl)) rfl (Zc rfl Z2r (OB.cell ob20 (j := 0) rfl)) s18.sub (by exact rfl)
   intro a w16 h17 s18 hat hF
   exact Z3 (Z0 hat (hF 7 10 rfl rfl)) rfl (Z95 rfl Z08) s18.sub (by exact rfl)
  intro a w16 h17 s18 hat hF
  obtain hv0 := hF 0 3 (by decide) rfl
  obtain hv1 := hF 1 4 (by decide) rfl
  obtain hv2 := hF 2 5 (by decide) rfl
  obtain hv3 := hF 3 6 (by decide) rfl
  obtain hv4 := hF 4 7 (by decide) rfl
  obtain hv5 := hF 5 8 (by decide) rfl
  obtain hv6 := hF 6 9 (by decide) rfl
  obtain hv7 := hF 7 10 (by decide) rfl
  obtain hv8 := hF 8 11 (by decide) rfl
  refine Z7z [(11, vi (x3.size : Int)), (10, .string x3), (9, pt b1 0), (8, pt b1 0), (7, pt b1 0), (6, vi x11), (5, pt b1 1), (4, pt b1 0), (3, pt b1 0), (0, pt b1 0)] (Z0 (Z0 (Z0 (Z0 (Z0 (Z0 (Z0 (Z0 (Z0 hat hv0) hv1) hv2) hv3) hv4) hv5) hv6) hv7) hv8) ?_
  have S21 := S10.trans0 s18
  refine Wv rfl (Zbt rfl rfl) <| Z7 <| Z6 <| Z17 HF rfl (fun HF => ?_) (fun HF => ?_)
  ·refine Zm ?_
   have ob121 := (ob12.step0 s18)
   refine Z0g [0] _ rfl ?_
   exact J120 ⟨h17, HF, rfl, S21, s18.le, ob121⟩
  refine Z4x <| Zz <| Zz <| Z1a ?_
  have ob23 := (ob12.step0 s18)
  refine Zb0 rfl ?_
  obtain rfl := Option.some.inj HF
  exact ⟨_, rfl, h17, S21, rfl, ob23⟩
 exact ⟨h0, x4, HF, rfl, S0, Hle.refl _, ob5⟩
theorem all_lexis_scanner_skip : ∀ k j, j ≤ k → Z7a (Z13 j).lexis_scanner_skip := by
  intro k
  induction k with
  | zero =>
    intro j hj
    obtain rfl : j = 0 := by omega
    exact (fun _ _ _ => by intro h; cases h)
  | succ k ih =>
    intro j hj
    by_cases h : j ≤ k
    · exact ih j h
    · obtain rfl : j = k + 1 := by omega
      exact s_lexis_scanner_skip k ih
theorem Z3s (k : Nat) : Z7a (Z39 k) := (all_lexis_scanner_skip k k (Nat.le_refl _))
def Z4q (φ : YS → ByteArray → Int → Option (Int × YS)) : Prop := ∀ ⦃y2 : YS⦄ ⦃x7 : ByteArray⦄ ⦃x8 : Int⦄ ⦃r : Int × YS⦄, φ y2 x7 x8 = some r → ∀ ⦃w0 : World⦄ ⦃h0 : Hp⦄ ⦃l1 : Nat⦄ ⦃J : YS → World → Hp → Prop⦄ ⦃MY : List Nat⦄ ⦃b3 : Nat⦄ ⦃T4 : Nat⦄ ⦃b5 : Nat⦄ ⦃T6 : Nat⦄, Sub h0 w0 → (∀ i ∈ MY, i < w0.heap.size) → (∀ s w h M w1 h1, J s w h → Stp M w h w1 h1 → YM MY w h M → J s w1 h1) → (∀ s t n r w h cs, yfTok s t n = some r → J s w h → w0.heap.size ≤ w.heap.size → Sub h w → Rp.R h t cs → YieldAt Fence.wide 0 Tryz.prog l1 #[.agg cs.toArray, .int .i64 n] w fun e w1 => ∃ b, e = .returned (.bool b) ∧ b = r.1 ∧ ∃ h1 M, J r.2 w1 h1 ∧ Stp M w h w1 h1 ∧ (∀ i ∈ M, i ∈ MY ∨ w0.heap.size ≤ i) ∧ ∀ b T cs, OB w h b T cs → b ∉ MY → b ∉ M) → OB w0 h0 b3 T4 [.pointer (some ⟨b5, 0, none⟩)] → OB w0 h0 b5 T6 [.string x7, .int .i64 x8] → J y2 w0 h0 → b3 ≠ b5 → b3 ∉ MY → b5 ∉ MY →
  Calls Tryz.prog 65 #[.func (.yield l1) #[] #[], .pointer (some ⟨b3, 0, none⟩)] w0 fun e w1 => ∃ v, e = .returned v ∧ ∃ h1, Stp ([b5] ++ MY) w0 h0 w1 h1 ∧ v = .tuple #[] ∧ (OB w1 h1 b5 T6 [.string x7, .int .i64 r.1]) ∧ (J r.2 w1 h1)
theorem Zg8 (k : Nat) (IH : ∀ j, j ≤ k → Z4q (Z02 j).lexis_scanner_tokens_1) : Z4q (Zac k (Z02 k)) := by
 intro y2 x7 x8 r HF w0 h0 l1 J MY b3 T4 b5 T6 hs0 hMY hYst hY ob10 ob9 hJ0 ne11 ne12 ne13
 have S0 : Stp ([b5] ++ MY) w0 h0 w0 h0 := Stp.refl hs0 _
 have lt14 : b3 < w0.heap.size := OB.lt ob10
 have lt15 : b5 < w0.heap.size := OB.lt ob9
 refine Z4j (n := 87) Tryz.func65 rfl Tryz.ntmps65 rfl [(0, .func (.yield l1) #[] #[]), (1, pt b3 0)] rfl <| Zb <| Z1 <| Wv rfl (Zc rfl Z43 (OB.cell ob10 (j := 0) rfl)) ?_
 obtain ⟨r16, hr17, HF⟩ := Z8 HF
 refine Wc rfl (Ze (vs := [pt b5 0]) rfl t_ent_66) (Z3s _ hr17 S0.sub ob9) ?_
 rintro v18 w19 ⟨h20, s21, rfl, ob22⟩
 have S23 := S0.trans s21 (Zn (.inl (by simp)) Z04)
 refine Z7 <| Z6 <| Z0p <| Z4m <| Z7y [0, 1] [(0, .func (.yield l1) #[] #[]), (1, pt b3 0)] rfl <| Z4k (K := k) (fun j E w25 => ∃ (h24 : Hp) (x29 : Int) (x31 : YS), (Z02 j).lexis_scanner_tokens_1_l1 x7 x29 x31 = some r ∧ E = [(0, .func (.yield l1) #[] #[]), (1, pt b3 0)] ∧ Stp ([b5] ++ MY) w0 h0 w25 h24 ∧ Hle h20 h24 ∧ OB w25 h24 b3 T4 [pt b5 0] ∧ OB w25 h24 b5 T6 [.string x7, vi x29] ∧ J x31 w25 h24) ?_ ?_ (j := k) (Nat.le_refl _) ?_
 ·rintro E w25 ⟨_, _, _, HF, _⟩; cases HF
 ·rintro j33 hj35 IHL34 E w25 ⟨h24, x29, x31, HF, rfl, S27, le26, ob28, ob30, ob32⟩
  refine Z09 (fun E w48 => ∃ (h47 : Hp), Z9r j33 (Z02 j33) x7 x29 x31 = some r ∧ E = [(0, .func (.yield l1) #[] #[]), (1, pt b3 0)] ∧ Stp ([b5] ++ MY) w0 h0 w48 h47 ∧ Hle h24 h47 ∧ OB w48 h47 b3 T4 [pt b5 0] ∧ OB w48 h47 b5 T6 [.string x7, vi x29] ∧ J x31 w48 h47) ?_ ?_
  ·rintro E w48 ⟨h47, HF, rfl, S50, le49, ob51, ob52, ob53⟩
   refine Zb <| Z0p <| Zb <| Z1 <| Wv rfl (Zc rfl Z43 (OB.cell ob51 (j := 0) rfl)) <| Wv rfl (Z51 (us := [pt b5 0]) (vs := []) rfl rfl) <| Wa rfl rfl <| Z7 <| Z6 <| Zb <| Zb <| Z2x (m := 8) [(0, .func (.yield l1) #[] #[]), (1, pt b3 0), (3, .func (.func 67) #[pt b5 0] #[])] [0, 1, 3] rfl (fun i v w h => match i with | 0 => v = pt b5 0 | 1 => v = pt b5 0 | 2 => v = pt b5 0 | 3 => v = .string x7 | 4 => v = pt b5 0 | 5 => v = pt b5 0 | 6 => v = pt b5 1 | 7 => v = vi x29 | _ => True) Z3f S50.sub rfl rfl rfl rfl rfl ?_ ?_ ?_
   ·intro i v w h w2 h2 hΦ hst
    match i, hΦ with
    | 0, hΦ | 1, hΦ | 2, hΦ | 3, hΦ | 4, hΦ | 5, hΦ | 6, hΦ | 7, hΦ => exact hΦ
    | i + 8, _ => exact trivial
   ·refine ⟨?_, ?_, ?_, ?_, ?_, ?_, ?_, ?_, trivial⟩
    ·intro a w54 h55 s56 hat hF
     have ob57 := (ob51.step0 s56)
     exact Z3 hat rfl (Zc rfl Z43 (OB.cell ob57 (j := 0) rfl)) s56.sub (by exact rfl)
    ·intro a w54 h55 s56 hat hF
     exact Z3 (Z0 hat (hF 0 23 rfl rfl)) rfl (Zs rfl) s56.sub (by exact rfl)
    ·intro a w54 h55 s56 hat hF
     exact Z3 (Z0 hat (hF 1 24 rfl rfl)) rfl (Z2 rfl Z1w) s56.sub (by exact rfl)
    ·intro a w54 h55 s56 hat hF
     have ob58 := (ob52.step0 s56)
     exact Z3 (Z0 hat (hF 2 25 rfl rfl)) rfl (Zc rfl Z2r (OB.cell ob58 (j := 0) rfl)) s56.sub (by exact rfl)
    ·intro a w54 h55 s56 hat hF
     have ob59 := (ob51.step0 s56)
     exact Z3 hat rfl (Zc rfl Z43 (OB.cell ob59 (j := 0) rfl)) s56.sub (by exact rfl)
    ·intro a w54 h55 s56 hat hF
     exact Z3 (Z0 hat (hF 4 27 rfl rfl)) rfl (Zs rfl) s56.sub (by exact rfl)
    ·intro a w54 h55 s56 hat hF
     exact Z3 (Z0 hat (hF 5 28 rfl rfl)) rfl (Z2 rfl Z0q) s56.sub (by exact rfl)
    intro a w54 h55 s56 hat hF
    have ob60 := (ob52.step0 s56)
    exact Z3 (Z0 hat (hF 6 29 rfl rfl)) rfl (Zc rfl Z0f (OB.cell ob60 (j := 1) rfl)) s56.sub (by exact rfl)
   intro a w54 h55 s56 hat hF
   obtain hv0 := hF 0 23 (by decide) rfl
   obtain hv1 := hF 1 24 (by decide) rfl
   obtain hv2 := hF 2 25 (by decide) rfl
   obtain hv3 := hF 3 26 (by decide) rfl
   obtain hv4 := hF 4 27 (by decide) rfl
   obtain hv5 := hF 5 28 (by decide) rfl
   obtain hv6 := hF 6 29 (by decide) rfl
   obtain hv7 := hF 7 30 (by decide) rfl
   refine Z7z [(30, vi x29), (29, pt b5 1), (28, pt b5 0), (27, pt b5 0), (26, .string x7), (25, pt b5 0), (24, pt b5 0), (23, pt b5 0), (0, .func (.yield l1) #[] #[]), (1, pt b3 0), (3, .func (.func 67) #[pt b5 0] #[])] (Z0 (Z0 (Z0 (Z0 (Z0 (Z0 (Z0 (Z0 hat hv0) hv1) hv2) hv3) hv4) hv5) hv6) hv7) ?_
   have S61 := S50.trans0 s56
   obtain ⟨c62, hc63, HF⟩ := Z8 HF
   refine Wv rfl (Z93 rfl rfl Z08 hc63) <| Wa rfl rfl <| Z7 <| Z6 <| Z0p <| Zb <| Z2x (m := 8) [(0, .func (.yield l1) #[] #[]), (1, pt b3 0), (3, .func (.func 67) #[pt b5 0] #[]), (4, .int .u8 c62)] [0, 1, 3, 4] rfl (fun i v w h => match i with | 0 => v = pt b5 0 | 1 => v = pt b5 0 | 2 => v = pt b5 0 | 3 => v = .string x7 | 4 => v = pt b5 0 | 5 => v = pt b5 0 | 6 => v = pt b5 1 | 7 => v = vi x29 | _ => True) Z3f S61.sub rfl rfl rfl rfl rfl ?_ ?_ ?_
   ·intro i v w h w2 h2 hΦ hst
    match i, hΦ with
    | 0, hΦ | 1, hΦ | 2, hΦ | 3, hΦ | 4, hΦ | 5, hΦ | 6, hΦ | 7, hΦ => exact hΦ
    | i + 8, _ => exact trivial
   ·refine ⟨?_, ?_, ?_, ?_, ?_, ?_, ?_, ?_, trivial⟩
    ·intro a w64 h65 s66 hat hF
     have ob67 := ((ob51.step0 s56).step0 s66)
     exact Z3 hat rfl (Zc rfl Z43 (OB.cell ob67 (j := 0) rfl)) s66.sub (by exact rfl)
    ·intro a w64 h65 s66 hat hF
     exact Z3 (Z0 hat (hF 0 33 rfl rfl)) rfl (Zs rfl) s66.sub (by exact rfl)
    ·intro a w64 h65 s66 hat hF
     exact Z3 (Z0 hat (hF 1 34 rfl rfl)) rfl (Z2 rfl Z1w) s66.sub (by exact rfl)
    ·intro a w64 h65 s66 hat hF
     have ob68 := ((ob52.step0 s56).step0 s66)
     exact Z3 (Z0 hat (hF 2 35 rfl rfl)) rfl (Zc rfl Z2r (OB.cell ob68 (j := 0) rfl)) s66.sub (by exact rfl)
    ·intro a w64 h65 s66 hat hF
     have ob69 := ((ob51.step0 s56).step0 s66)
     exact Z3 hat rfl (Zc rfl Z43 (OB.cell ob69 (j := 0) rfl)) s66.sub (by exact rfl)
    ·intro a w64 h65 s66 hat hF
     exact Z3 (Z0 hat (hF 4 37 rfl rfl)) rfl (Zs rfl) s66.sub (by exact rfl)
    ·intro a w64 h65 s66 hat hF
     exact Z3 (Z0 hat (hF 5 38 rfl rfl)) rfl (Z2 rfl Z0q) s66.sub (by exact rfl)
    intro a w64 h65 s66 hat hF
    have ob70 := ((ob52.step0 s56).step0 s66)
    exact Z3 (Z0 hat (hF 6 39 rfl rfl)) rfl (Zc rfl Z0f (OB.cell ob70 (j := 1) rfl)) s66.sub (by exact rfl)
   intro a w64 h65 s66 hat hF
   obtain hv0 := hF 0 33 (by decide) rfl
   obtain hv1 := hF 1 34 (by decide) rfl
   obtain hv2 := hF 2 35 (by decide) rfl
   obtain hv3 := hF 3 36 (by decide) rfl
   obtain hv4 := hF 4 37 (by decide) rfl
   obtain hv5 := hF 5 38 (by decide) rfl
   obtain hv6 := hF 6 39 (by decide) rfl
   obtain hv7 := hF 7 40 (by decide) rfl
   refine Z7z [(40, vi x29), (39, pt b5 1), (38, pt b5 0), (37, pt b5 0), (36, .string x7), (35, pt b5 0), (34, pt b5 0), (33, pt b5 0), (0, .func (.yield l1) #[] #[]), (1, pt b3 0), (3, .func (.func 67) #[pt b5 0] #[]), (4, .int .u8 c62)] (Z0 (Z0 (Z0 (Z0 (Z0 (Z0 (Z0 (Z0 hat hv0) hv1) hv2) hv3) hv4) hv5) hv6) hv7) ?_
   have S71 := S61.trans0 s66
   obtain ⟨t72, ht73, HF⟩ := Z8 HF
   refine Wv rfl (ov_sliceSL rfl rfl Z08 ht73) ?_
   obtain ⟨r74, hr75, HF⟩ := Z8 HF
   refine Wc rfl (Ze (vs := [.string t72, .string b'21]) rfl t_ent_68) (Zdl _ hr75 S71.sub) ?_
   have ob80 := ((ob51.step0 s56).step0 s66)
   have ob81 := ((ob52.step0 s56).step0 s66)
   have hJ82 := (hYst _ _ _ _ _ _ (hYst _ _ _ _ _ _ ob53 s56 Z6c) s66 Z6c)
   rintro _ w77 ⟨h78, s79, rfl⟩
   have S83 := S71.trans0 s79
   refine Wa rfl rfl <| Z7 <| Z6 <| Z17 HF rfl (fun HF => ?_) (fun HF => ?_)
   ·refine Z1 ?_
    have ob85 := (ob80.step0 s79)
    refine Wv rfl (Zc rfl Z43 (OB.cell ob85 (j := 0) rfl)) <| Wv rfl (Z51 (us := [pt b5 0]) (vs := []) rfl rfl) <| Wa rfl rfl <| Z7 <| Z0a <| Z6 <| Zb <| Z1 <| Wm rfl rfl ?_
    have ob86 := (ob81.step0 s79)
    obtain ⟨r87, hr88, HF⟩ := Z8 HF
    refine Wc rfl (Z99 (us := [pt b5 0]) (vs := []) (caps := []) rfl rfl t_ent_69) (ok_lexis_scanner_time _ hr88 S83.sub ob86) ?_
    have hJ95 := (hYst _ _ _ _ _ _ hJ82 s79 Z6c)
    rintro _ w90 ⟨h91, s92, _, _, rfl, ⟨cs93, rfl, r94⟩, rfl⟩
    have S96 := S83.trans0 s92
    refine Wm rfl rfl <| Wv rfl (Z0c rfl rfl) <| Wv rfl (Z0c rfl rfl) ?_
    have ob97 := (ob85.step0 s92)
    have ob98 := (ob86.step0 s92)
    have hJ99 := (hYst _ _ _ _ _ _ hJ95 s92 Z6c)
    refine Z15 (zs := [vi 0, .string b'47, vi 0]) rfl rfl Z60 rfl S96.sub (fun w100 b101 hb102 s103 ob104 => ?_)
    have ne105 : b3 ≠ b101 := ob97.ne_new hb102
    have ne106 : b5 ≠ b101 := ob98.ne_new hb102
    have g107 : w0.heap.size ≤ b101 := by rw [hb102]; exact S96.size
    have S108 := S96.trans0 s103
    obtain rfl := Z62.1 (Rp.mono (s103.le) r94)
    refine Zo (vs := [vi r87.1.kind, .string r87.1.text, vi r87.1.pos]) rfl rfl rfl rfl Z1o (Z5 rfl (Z5 rfl (Z5 rfl Zx))) ob104 S108.sub (by simp) (ds := [vi r87.1.kind, .string r87.1.text, vi r87.1.pos]) rfl (fun w109 s110 ob111 => ?_)
    have S112 := S108.trans1 s110 (.inr g107)
    refine Wa rfl rfl <| Z7 <| Z6 <| Zb <| Z1 ?_
    have ob113 := ((ob97.step0 s103).step1 s110 ne105)
    refine Wv rfl (Zc rfl Z43 (OB.cell ob113 (j := 0) rfl)) <| Wv rfl (Zs rfl) <| Wv rfl (Z2 rfl Z0q) ?_
    have ob114 := ((ob98.step0 s103).step1 s110 ne106)
    refine Wv rfl (Zc rfl Z0f (OB.cell ob114 (j := 1) rfl)) <| Wv rfl (Z2 rfl Ze1) <| Zo (vs := [vi x29]) rfl rfl rfl rfl Z1p (Z5 rfl Zx) ob111 S112.sub (by simp) (ds := [vi r87.1.kind, .string r87.1.text, vi x29]) rfl (fun w115 s116 ob117 => ?_)
    have S118 := S112.trans1 s116 (.inr g107)
    refine Z7 <| Z6 <| Z09 (fun E w149 => ∃ (h148 : Hp) (x154 : YS), Z9k j33 (Z02 j33) x7 x29 r87 x154 = some r ∧ E = [(0, .func (.yield l1) #[] #[]), (1, pt b3 0), (6, vi r87.2)] ∧ Stp ([b5] ++ MY) w0 h0 w149 h148 ∧ Hle h91 h148 ∧ OB w149 h148 b3 T4 [pt b5 0] ∧ OB w149 h148 b5 T6 [.string x7, vi x29] ∧ J x154 w149 h148) ?_ ?_
    ·rintro E w149 ⟨h148, x154, HF, rfl, S151, le150, ob152, ob153, ob155⟩
     refine Z1 <| Wv rfl (Zc rfl Z43 (OB.cell ob152 (j := 0) rfl)) <| Wv rfl (Zs rfl) <| Wv rfl (Z2 rfl Z0q) <| Wv rfl (Zc rfl Z0f (OB.cell ob153 (j := 1) rfl)) <| Wm rfl rfl <| Wv rfl (Z3n rfl rfl) <| Wv rfl (Zs rfl) <| Wv rfl (Z2 rfl Z0q) <| Zo (vs := [vi (IntKind.i64.wrap (x29 + r87.2))]) rfl rfl rfl rfl Z1p (Z5 rfl Zx) ob153 S151.sub (by simp) (ds := [.string x7, vi (IntKind.i64.wrap (x29 + r87.2))]) rfl (fun w156 s157 ob158 => ?_)
     have S159 := S151.trans1 s157 (.inl (by simp))
     refine Z7 <| Z0a <| Z6 <| Z1 ?_
     have ob160 := (ob152.step1 s157 ne11)
     refine Wv rfl (Zc rfl Z43 (OB.cell ob160 (j := 0) rfl)) ?_
     obtain ⟨r161, hr162, HF⟩ := Z8 HF
     refine Wc rfl (Ze (vs := [pt b5 0]) rfl t_ent_66) (Z3s _ hr162 S159.sub ob158) ?_
     have hJ167 := (hYst _ _ _ _ _ _ ob155 s157 (Z91 ne13 ob153 Z6c))
     rintro v163 w164 ⟨h165, s166, rfl, ob168⟩
     have S169 := S159.trans s166 (Zn (.inl (by simp)) Z04)
     refine Z7 ?_
     have ob542 := (ob160.step1 s166 ne11)
     have hJ543 := (hYst _ _ _ _ _ _ hJ167 s166 (Z91 ne13 ob158 Z6c))
     refine Z2c <| Z7y [0, 1] [(0, .func (.yield l1) #[] #[]), (1, pt b3 0)] rfl ?_
     exact IHL34 j33 (Nat.le_refl _) _ _ ⟨h165, r161, x154, HF, rfl, S169, (le26).trans ((le49).trans ((s56.le).trans ((s66.le).trans ((s79.le).trans ((s92.le).trans ((s103.le).trans ((s110.le).trans ((s116.le).trans ((le150).trans ((s157.le).trans s166.le)))))))))), ob542, ob168, hJ543⟩
    intro J170
    refine Z09 (fun E w134 => ∃ (h133 : Hp) (x137 : Bool) (x140 : YS), Z6r j33 (Z02 j33) x7 x29 r87 x137 x140 = some r ∧ E = [(0, .func (.yield l1) #[] #[]), (1, pt b3 0), (6, vi r87.2), (78, .bool x137)] ∧ Stp ([b5] ++ MY) w0 h0 w134 h133 ∧ Hle h91 h133 ∧ OB w134 h133 b3 T4 [pt b5 0] ∧ OB w134 h133 b5 T6 [.string x7, vi x29] ∧ J x140 w134 h133) ?_ ?_
    ·rintro E w134 ⟨h133, x137, x140, HF, rfl, S136, le135, ob138, ob139, ob141⟩
     refine Z17 HF rfl (fun HF => ?_) (fun HF => ?_)
     ·refine Z00 <| Zi <| Zy <| Zi <| Zi <| Zy <| WQ.ret0 rfl ?_
      obtain rfl := Option.some.inj HF
      exact ⟨_, rfl, h133, S136, rfl, ob139, ob141⟩
     refine Zm <| Z0g [0, 1, 6] _ rfl ?_
     exact J170 ⟨h133, x140, HF, rfl, S136, le135, ob138, ob139, ob141⟩
    intro J143
    refine WC.regionI <| WI.val (fun _ => trivial) rfl rfl rfl (fun c h => by cases h) (Zu rfl) <| WI.val (fun _ => trivial) rfl rfl rfl (fun c h => by cases h) (Z16 (cs := [vi r87.1.kind, .string r87.1.text, vi x29]) rfl Z80 Z1o (OB.cells ob117 0 rfl)) <| WI.val (fun _ => trivial) rfl rfl rfl (fun c h => by cases h) (Zu rfl) ?_
    have hJ119 := (hYst _ _ _ _ _ _ (hYst _ _ _ _ _ _ (hYst _ _ _ _ _ _ hJ99 s103 Z6c) s110 (Z91 (ny_new hMY g107) ob104 Z6c)) s116 (Z91 (ny_new hMY g107) ob111 Z6c))
    have ob129 := (ob113.step1 s116 ne105)
    have ob130 := (ob114.step1 s116 ne106)
    obtain ⟨r120, hr121, HF⟩ := Z8 HF
    refine WI.yield (vs := [.agg #[vi r87.1.kind, .string r87.1.text, vi x29], vi r87.2]) rfl rfl rfl rfl (hY _ _ _ _ _ _ _ hr121 hJ119 S118.size S118.sub (Z62.2 rfl)) ?_
    rintro _ w122 ⟨rfl, h123, M124, hJ125, s126, hM127, hOB128⟩
    have S131 := S118.trans s126 (fun i hi => (hM127 i hi).imp (fun q => List.mem_append_right _ q) id)
    refine WI.val (fun _ => trivial) rfl rfl rfl (fun c h => by cases h) (Z3c rfl) <| WI.val (fun _ => trivial) rfl rfl rfl (fun c h => by cases h) (Zu rfl) <| WI.split 75 (b := !r120.1) rfl (fun hb132 => ?_) (fun hb132 => ?_)
    ·replace HF := bif_t hb132 HF
     refine WI.pass (fun _ => trivial) rfl rfl rfl <| WI.pass (fun _ => trivial) rfl rfl rfl <| WI.val (fun _ => trivial) rfl rfl rfl (fun c h => by cases h) (Zh rfl rfl) <| WI.nil ?_
     have ob144 := (ob129.step s126 (hOB128 _ _ _ ob129 ne12))
     have ob145 := (ob130.step s126 (hOB128 _ _ _ ob130 ne13))
     refine Z0g [0, 1, 6, 78] _ rfl ?_
     exact J143 ⟨h123, true, r120.2, HF, rfl, S131, s126.le, ob144, ob145, hJ125⟩
    replace HF := bif_f hb132 HF
    refine WI.val (fun _ => trivial) rfl rfl rfl (fun c h => by cases h) (Zu rfl) <| WI.val (fun _ => trivial) rfl rfl rfl (fun c h => by cases h) (Z4n rfl rfl) <| WI.val (fun _ => trivial) rfl rfl rfl (fun c h => by cases h) (Zg rfl rfl) <| WI.nil ?_
    have ob146 := (ob129.step s126 (hOB128 _ _ _ ob129 ne12))
    have ob147 := (ob130.step s126 (hOB128 _ _ _ ob130 ne13))
    refine Z0g [0, 1, 6, 78] _ rfl ?_
    exact J143 ⟨h123, (r87.2 : Int) == 0, r120.2, HF, rfl, S131, s126.le, ob146, ob147, hJ125⟩
   refine Zb <| Z1 <| Wm rfl rfl ?_
   obtain ⟨r171, hr172, HF⟩ := Z8 HF
   refine Wc rfl (Ze (vs := [.int .u8 c62]) rfl t_ent_70) (Z97 _ hr172 S83.sub) ?_
   have ob177 := (ob80.step0 s79)
   have ob178 := (ob81.step0 s79)
   have hJ179 := (hYst _ _ _ _ _ _ hJ82 s79 Z6c)
   rintro _ w174 ⟨h175, s176, rfl⟩
   have S180 := S83.trans0 s176
   refine Wa rfl rfl <| Z7 <| Z6 <| Z17 HF rfl (fun HF => ?_) (fun HF => ?_)
   ·refine Z1 ?_
    have ob182 := (ob177.step0 s176)
    refine Wv rfl (Zc rfl Z43 (OB.cell ob182 (j := 0) rfl)) <| Wv rfl (Z51 (us := [pt b5 0]) (vs := []) rfl rfl) <| Wa rfl rfl <| Z7 <| Z0a <| Z6 <| Zb <| Z1 <| Wm rfl rfl ?_
    have ob183 := (ob178.step0 s176)
    obtain ⟨r184, hr185, HF⟩ := Z8 HF
    refine Wc rfl (Z99 (us := [pt b5 0]) (vs := []) (caps := []) rfl rfl t_ent_71) (ok_lexis_scanner_word _ hr185 S180.sub ob183) ?_
    have hJ192 := (hYst _ _ _ _ _ _ hJ179 s176 Z6c)
    rintro _ w187 ⟨h188, s189, _, _, rfl, ⟨cs190, rfl, r191⟩, rfl⟩
    have S193 := S180.trans0 s189
    refine Wm rfl rfl <| Wv rfl (Z0c rfl rfl) <| Wv rfl (Z0c rfl rfl) ?_
    have ob194 := (ob182.step0 s189)
    have ob195 := (ob183.step0 s189)
    have hJ196 := (hYst _ _ _ _ _ _ hJ192 s189 Z6c)
    refine Z15 (zs := [vi 0, .string b'47, vi 0]) rfl rfl Z60 rfl S193.sub (fun w197 b198 hb199 s200 ob201 => ?_)
    have ne202 : b3 ≠ b198 := ob194.ne_new hb199
    have ne203 : b5 ≠ b198 := ob195.ne_new hb199
    have g204 : w0.heap.size ≤ b198 := by rw [hb199]; exact S193.size
    have S205 := S193.trans0 s200
    obtain rfl := Z62.1 (Rp.mono (s200.le) r191)
    refine Zo (vs := [vi r184.1.kind, .string r184.1.text, vi r184.1.pos]) rfl rfl rfl rfl Z1o (Z5 rfl (Z5 rfl (Z5 rfl Zx))) ob201 S205.sub (by simp) (ds := [vi r184.1.kind, .string r184.1.text, vi r184.1.pos]) rfl (fun w206 s207 ob208 => ?_)
    have S209 := S205.trans1 s207 (.inr g204)
    refine Wa rfl rfl <| Z7 <| Z6 <| Zb <| Z1 ?_
    have ob210 := ((ob194.step0 s200).step1 s207 ne202)
    refine Wv rfl (Zc rfl Z43 (OB.cell ob210 (j := 0) rfl)) <| Wv rfl (Zs rfl) <| Wv rfl (Z2 rfl Z0q) ?_
    have ob211 := ((ob195.step0 s200).step1 s207 ne203)
    refine Wv rfl (Zc rfl Z0f (OB.cell ob211 (j := 1) rfl)) <| Wv rfl (Z2 rfl Ze1) <| Zo (vs := [vi x29]) rfl rfl rfl rfl Z1p (Z5 rfl Zx) ob208 S209.sub (by simp) (ds := [vi r184.1.kind, .string r184.1.text, vi x29]) rfl (fun w212 s213 ob214 => ?_)
    have S215 := S209.trans1 s213 (.inr g204)
    refine Z7 <| Z6 <| Z09 (fun E w246 => ∃ (h245 : Hp) (x251 : YS), Z9p j33 (Z02 j33) x7 x29 r184 x251 = some r ∧ E = [(0, .func (.yield l1) #[] #[]), (1, pt b3 0), (6, vi r184.2)] ∧ Stp ([b5] ++ MY) w0 h0 w246 h245 ∧ Hle h188 h245 ∧ OB w246 h245 b3 T4 [pt b5 0] ∧ OB w246 h245 b5 T6 [.string x7, vi x29] ∧ J x251 w246 h245) ?_ ?_
    ·rintro E w246 ⟨h245, x251, HF, rfl, S248, le247, ob249, ob250, ob252⟩
     refine Z1 <| Wv rfl (Zc rfl Z43 (OB.cell ob249 (j := 0) rfl)) <| Wv rfl (Zs rfl) <| Wv rfl (Z2 rfl Z0q) <| Wv rfl (Zc rfl Z0f (OB.cell ob250 (j := 1) rfl)) <| Wm rfl rfl <| Wv rfl (Z3n rfl rfl) <| Wv rfl (Zs rfl) <| Wv rfl (Z2 rfl Z0q) <| Zo (vs := [vi (IntKind.i64.wrap (x29 + r184.2))]) rfl rfl rfl rfl Z1p (Z5 rfl Zx) ob250 S248.sub (by simp) (ds := [.string x7, vi (IntKind.i64.wrap (x29 + r184.2))]) rfl (fun w253 s254 ob255 => ?_)
     have S256 := S248.trans1 s254 (.inl (by simp))
     refine Z7 <| Z0a <| Z6 <| Z1 ?_
     have ob257 := (ob249.step1 s254 ne11)
     refine Wv rfl (Zc rfl Z43 (OB.cell ob257 (j := 0) rfl)) ?_
     obtain ⟨r258, hr259, HF⟩ := Z8 HF
     refine Wc rfl (Ze (vs := [pt b5 0]) rfl t_ent_66) (Z3s _ hr259 S256.sub ob255) ?_
     have hJ264 := (hYst _ _ _ _ _ _ ob252 s254 (Z91 ne13 ob250 Z6c))
     rintro v260 w261 ⟨h262, s263, rfl, ob265⟩
     have S266 := S256.trans s263 (Zn (.inl (by simp)) Z04)
     refine Z7 ?_
     have ob544 := (ob257.step1 s263 ne11)
     have hJ545 := (hYst _ _ _ _ _ _ hJ264 s263 (Z91 ne13 ob255 Z6c))
     refine Z2c <| Z7y [0, 1] [(0, .func (.yield l1) #[] #[]), (1, pt b3 0)] rfl ?_
     exact IHL34 j33 (Nat.le_refl _) _ _ ⟨h262, r258, x251, HF, rfl, S266, (le26).trans ((le49).trans ((s56.le).trans ((s66.le).trans ((s79.le).trans ((s176.le).trans ((s189.le).trans ((s200.le).trans ((s207.le).trans ((s213.le).trans ((le247).trans ((s254.le).trans s263.le))))))))))), ob544, ob265, hJ545⟩
    intro J267
    refine Z09 (fun E w231 => ∃ (h230 : Hp) (x234 : Bool) (x237 : YS), Z6u j33 (Z02 j33) x7 x29 r184 x234 x237 = some r ∧ E = [(0, .func (.yield l1) #[] #[]), (1, pt b3 0), (6, vi r184.2), (78, .bool x234)] ∧ Stp ([b5] ++ MY) w0 h0 w231 h230 ∧ Hle h188 h230 ∧ OB w231 h230 b3 T4 [pt b5 0] ∧ OB w231 h230 b5 T6 [.string x7, vi x29] ∧ J x237 w231 h230) ?_ ?_
    ·rintro E w231 ⟨h230, x234, x237, HF, rfl, S233, le232, ob235, ob236, ob238⟩
     refine Z17 HF rfl (fun HF => ?_) (fun HF => ?_)
     ·refine Z00 <| Zi <| Zy <| Zi <| Zi <| Zy <| WQ.ret0 rfl ?_
      obtain rfl := Option.some.inj HF
      exact ⟨_, rfl, h230, S233, rfl, ob236, ob238⟩
     refine Zm <| Z0g [0, 1, 6] _ rfl ?_
     exact J267 ⟨h230, x237, HF, rfl, S233, le232, ob235, ob236, ob238⟩
    intro J240
    refine WC.regionI <| WI.val (fun _ => trivial) rfl rfl rfl (fun c h => by cases h) (Zu rfl) <| WI.val (fun _ => trivial) rfl rfl rfl (fun c h => by cases h) (Z16 (cs := [vi r184.1.kind, .string r184.1.text, vi x29]) rfl Z80 Z1o (OB.cells ob214 0 rfl)) <| WI.val (fun _ => trivial) rfl rfl rfl (fun c h => by cases h) (Zu rfl) ?_
    have hJ216 := (hYst _ _ _ _ _ _ (hYst _ _ _ _ _ _ (hYst _ _ _ _ _ _ hJ196 s200 Z6c) s207 (Z91 (ny_new hMY g204) ob201 Z6c)) s213 (Z91 (ny_new hMY g204) ob208 Z6c))
    have ob226 := (ob210.step1 s213 ne202)
    have ob227 := (ob211.step1 s213 ne203)
    obtain ⟨r217, hr218, HF⟩ := Z8 HF
    refine WI.yield (vs := [.agg #[vi r184.1.kind, .string r184.1.text, vi x29], vi r184.2]) rfl rfl rfl rfl (hY _ _ _ _ _ _ _ hr218 hJ216 S215.size S215.sub (Z62.2 rfl)) ?_
    rintro _ w219 ⟨rfl, h220, M221, hJ222, s223, hM224, hOB225⟩
    have S228 := S215.trans s223 (fun i hi => (hM224 i hi).imp (fun q => List.mem_append_right _ q) id)
    refine WI.val (fun _ => trivial) rfl rfl rfl (fun c h => by cases h) (Z3c rfl) <| WI.val (fun _ => trivial) rfl rfl rfl (fun c h => by cases h) (Zu rfl) <| WI.split 75 (b := !r217.1) rfl (fun hb229 => ?_) (fun hb229 => ?_)
    ·replace HF := bif_t hb229 HF
     refine WI.pass (fun _ => trivial) rfl rfl rfl <| WI.pass (fun _ => trivial) rfl rfl rfl <| WI.val (fun _ => trivial) rfl rfl rfl (fun c h => by cases h) (Zh rfl rfl) <| WI.nil ?_
     have ob241 := (ob226.step s223 (hOB225 _ _ _ ob226 ne12))
     have ob242 := (ob227.step s223 (hOB225 _ _ _ ob227 ne13))
     refine Z0g [0, 1, 6, 78] _ rfl ?_
     exact J240 ⟨h220, true, r217.2, HF, rfl, S228, s223.le, ob241, ob242, hJ222⟩
    replace HF := bif_f hb229 HF
    refine WI.val (fun _ => trivial) rfl rfl rfl (fun c h => by cases h) (Zu rfl) <| WI.val (fun _ => trivial) rfl rfl rfl (fun c h => by cases h) (Z4n rfl rfl) <| WI.val (fun _ => trivial) rfl rfl rfl (fun c h => by cases h) (Zg rfl rfl) <| WI.nil ?_
    have ob243 := (ob226.step s223 (hOB225 _ _ _ ob226 ne12))
    have ob244 := (ob227.step s223 (hOB225 _ _ _ ob227 ne13))
    refine Z0g [0, 1, 6, 78] _ rfl ?_
    exact J240 ⟨h220, (r184.2 : Int) == 0, r217.2, HF, rfl, S228, s223.le, ob243, ob244, hJ222⟩
   refine Zb <| Z1 <| Wm rfl rfl ?_
   obtain ⟨r268, hr269, HF⟩ := Z8 HF
   refine Wc rfl (Ze (vs := [.int .u8 c62]) rfl t_ent_72) (Z9z _ hr269 S180.sub) ?_
   have ob274 := (ob177.step0 s176)
   have ob275 := (ob178.step0 s176)
   have hJ276 := (hYst _ _ _ _ _ _ hJ179 s176 Z6c)
   rintro _ w271 ⟨h272, s273, rfl⟩
   have S277 := S180.trans0 s273
   refine Wa rfl rfl <| Z7 <| Z6 <| Z17 HF rfl (fun HF => ?_) (fun HF => ?_)
   ·refine Z1 ?_
    have ob279 := (ob274.step0 s273)
    refine Wv rfl (Zc rfl Z43 (OB.cell ob279 (j := 0) rfl)) <| Wv rfl (Z51 (us := [pt b5 0]) (vs := []) rfl rfl) <| Wa rfl rfl <| Z7 <| Z0a <| Z6 <| Zb <| Z1 <| Wm rfl rfl ?_
    have ob280 := (ob275.step0 s273)
    obtain ⟨r281, hr282, HF⟩ := Z8 HF
    refine Wc rfl (Z99 (us := [pt b5 0]) (vs := []) (caps := []) rfl rfl t_ent_73) (Zg1 _ hr282 S277.sub ob280) ?_
    have hJ289 := (hYst _ _ _ _ _ _ hJ276 s273 Z6c)
    rintro _ w284 ⟨h285, s286, _, _, rfl, ⟨cs287, rfl, r288⟩, rfl⟩
    have S290 := S277.trans0 s286
    refine Wm rfl rfl <| Wv rfl (Z0c rfl rfl) <| Wv rfl (Z0c rfl rfl) ?_
    have ob291 := (ob279.step0 s286)
    have ob292 := (ob280.step0 s286)
    have hJ293 := (hYst _ _ _ _ _ _ hJ289 s286 Z6c)
    refine Z15 (zs := [vi 0, .string b'47, vi 0]) rfl rfl Z60 rfl S290.sub (fun w294 b295 hb296 s297 ob298 => ?_)
    have ne299 : b3 ≠ b295 := ob291.ne_new hb296
    have ne300 : b5 ≠ b295 := ob292.ne_new hb296
    have g301 : w0.heap.size ≤ b295 := by rw [hb296]; exact S290.size
    have S302 := S290.trans0 s297
    obtain rfl := Z62.1 (Rp.mono (s297.le) r288)
    refine Zo (vs := [vi r281.1.kind, .string r281.1.text, vi r281.1.pos]) rfl rfl rfl rfl Z1o (Z5 rfl (Z5 rfl (Z5 rfl Zx))) ob298 S302.sub (by simp) (ds := [vi r281.1.kind, .string r281.1.text, vi r281.1.pos]) rfl (fun w303 s304 ob305 => ?_)
    have S306 := S302.trans1 s304 (.inr g301)
    refine Wa rfl rfl <| Z7 <| Z6 <| Zb <| Z1 ?_
    have ob307 := ((ob291.step0 s297).step1 s304 ne299)
    refine Wv rfl (Zc rfl Z43 (OB.cell ob307 (j := 0) rfl)) <| Wv rfl (Zs rfl) <| Wv rfl (Z2 rfl Z0q) ?_
    have ob308 := ((ob292.step0 s297).step1 s304 ne300)
    refine Wv rfl (Zc rfl Z0f (OB.cell ob308 (j := 1) rfl)) <| Wv rfl (Z2 rfl Ze1) <| Zo (vs := [vi x29]) rfl rfl rfl rfl Z1p (Z5 rfl Zx) ob305 S306.sub (by simp) (ds := [vi r281.1.kind, .string r281.1.text, vi x29]) rfl (fun w309 s310 ob311 => ?_)
    have S312 := S306.trans1 s310 (.inr g301)
    refine Z7 <| Z6 <| Z09 (fun E w343 => ∃ (h342 : Hp) (x348 : YS), Z9m j33 (Z02 j33) x7 x29 r281 x348 = some r ∧ E = [(0, .func (.yield l1) #[] #[]), (1, pt b3 0), (6, vi r281.2)] ∧ Stp ([b5] ++ MY) w0 h0 w343 h342 ∧ Hle h285 h342 ∧ OB w343 h342 b3 T4 [pt b5 0] ∧ OB w343 h342 b5 T6 [.string x7, vi x29] ∧ J x348 w343 h342) ?_ ?_
    ·rintro E w343 ⟨h342, x348, HF, rfl, S345, le344, ob346, ob347, ob349⟩
     refine Z1 <| Wv rfl (Zc rfl Z43 (OB.cell ob346 (j := 0) rfl)) <| Wv rfl (Zs rfl) <| Wv rfl (Z2 rfl Z0q) <| Wv rfl (Zc rfl Z0f (OB.cell ob347 (j := 1) rfl)) <| Wm rfl rfl <| Wv rfl (Z3n rfl rfl) <| Wv rfl (Zs rfl) <| Wv rfl (Z2 rfl Z0q) <| Zo (vs := [vi (IntKind.i64.wrap (x29 + r281.2))]) rfl rfl rfl rfl Z1p (Z5 rfl Zx) ob347 S345.sub (by simp) (ds := [.string x7, vi (IntKind.i64.wrap (x29 + r281.2))]) rfl (fun w350 s351 ob352 => ?_)
     have S353 := S345.trans1 s351 (.inl (by simp))
     refine Z7 <| Z0a <| Z6 <| Z1 ?_
     have ob354 := (ob346.step1 s351 ne11)
     refine Wv rfl (Zc rfl Z43 (OB.cell ob354 (j := 0) rfl)) ?_
     obtain ⟨r355, hr356, HF⟩ := Z8 HF
     refine Wc rfl (Ze (vs := [pt b5 0]) rfl t_ent_66) (Z3s _ hr356 S353.sub ob352) ?_
     have hJ361 := (hYst _ _ _ _ _ _ ob349 s351 (Z91 ne13 ob347 Z6c))
     rintro v357 w358 ⟨h359, s360, rfl, ob362⟩
     have S363 := S353.trans s360 (Zn (.inl (by simp)) Z04)
     refine Z7 ?_
     have ob546 := (ob354.step1 s360 ne11)
     have hJ547 := (hYst _ _ _ _ _ _ hJ361 s360 (Z91 ne13 ob352 Z6c))
     refine Z2c <| Z7y [0, 1] [(0, .func (.yield l1) #[] #[]), (1, pt b3 0)] rfl ?_
     exact IHL34 j33 (Nat.le_refl _) _ _ ⟨h359, r355, x348, HF, rfl, S363, (le26).trans ((le49).trans ((s56.le).trans ((s66.le).trans ((s79.le).trans ((s176.le).trans ((s273.le).trans ((s286.le).trans ((s297.le).trans ((s304.le).trans ((s310.le).trans ((le344).trans ((s351.le).trans s360.le)))))))))))), ob546, ob362, hJ547⟩
    intro J364
    refine Z09 (fun E w328 => ∃ (h327 : Hp) (x331 : Bool) (x334 : YS), Z6t j33 (Z02 j33) x7 x29 r281 x331 x334 = some r ∧ E = [(0, .func (.yield l1) #[] #[]), (1, pt b3 0), (6, vi r281.2), (78, .bool x331)] ∧ Stp ([b5] ++ MY) w0 h0 w328 h327 ∧ Hle h285 h327 ∧ OB w328 h327 b3 T4 [pt b5 0] ∧ OB w328 h327 b5 T6 [.string x7, vi x29] ∧ J x334 w328 h327) ?_ ?_
    ·rintro E w328 ⟨h327, x331, x334, HF, rfl, S330, le329, ob332, ob333, ob335⟩
     refine Z17 HF rfl (fun HF => ?_) (fun HF => ?_)
     ·refine Z00 <| Zi <| Zy <| Zi <| Zi <| Zy <| WQ.ret0 rfl ?_
      obtain rfl := Option.some.inj HF
      exact ⟨_, rfl, h327, S330, rfl, ob333, ob335⟩
     refine Zm <| Z0g [0, 1, 6] _ rfl ?_
     exact J364 ⟨h327, x334, HF, rfl, S330, le329, ob332, ob333, ob335⟩
    intro J337
    refine WC.regionI <| WI.val (fun _ => trivial) rfl rfl rfl (fun c h => by cases h) (Zu rfl) <| WI.val (fun _ => trivial) rfl rfl rfl (fun c h => by cases h) (Z16 (cs := [vi r281.1.kind, .string r281.1.text, vi x29]) rfl Z80 Z1o (OB.cells ob311 0 rfl)) <| WI.val (fun _ => trivial) rfl rfl rfl (fun c h => by cases h) (Zu rfl) ?_
    have hJ313 := (hYst _ _ _ _ _ _ (hYst _ _ _ _ _ _ (hYst _ _ _ _ _ _ hJ293 s297 Z6c) s304 (Z91 (ny_new hMY g301) ob298 Z6c)) s310 (Z91 (ny_new hMY g301) ob305 Z6c))
    have ob323 := (ob307.step1 s310 ne299)
    have ob324 := (ob308.step1 s310 ne300)
    obtain ⟨r314, hr315, HF⟩ := Z8 HF
    refine WI.yield (vs := [.agg #[vi r281.1.kind, .string r281.1.text, vi x29], vi r281.2]) rfl rfl rfl rfl (hY _ _ _ _ _ _ _ hr315 hJ313 S312.size S312.sub (Z62.2 rfl)) ?_
    rintro _ w316 ⟨rfl, h317, M318, hJ319, s320, hM321, hOB322⟩
    have S325 := S312.trans s320 (fun i hi => (hM321 i hi).imp (fun q => List.mem_append_right _ q) id)
    refine WI.val (fun _ => trivial) rfl rfl rfl (fun c h => by cases h) (Z3c rfl) <| WI.val (fun _ => trivial) rfl rfl rfl (fun c h => by cases h) (Zu rfl) <| WI.split 75 (b := !r314.1) rfl (fun hb326 => ?_) (fun hb326 => ?_)
    ·replace HF := bif_t hb326 HF
     refine WI.pass (fun _ => trivial) rfl rfl rfl <| WI.pass (fun _ => trivial) rfl rfl rfl <| WI.val (fun _ => trivial) rfl rfl rfl (fun c h => by cases h) (Zh rfl rfl) <| WI.nil ?_
     have ob338 := (ob323.step s320 (hOB322 _ _ _ ob323 ne12))
     have ob339 := (ob324.step s320 (hOB322 _ _ _ ob324 ne13))
     refine Z0g [0, 1, 6, 78] _ rfl ?_
     exact J337 ⟨h317, true, r314.2, HF, rfl, S325, s320.le, ob338, ob339, hJ319⟩
    replace HF := bif_f hb326 HF
    refine WI.val (fun _ => trivial) rfl rfl rfl (fun c h => by cases h) (Zu rfl) <| WI.val (fun _ => trivial) rfl rfl rfl (fun c h => by cases h) (Z4n rfl rfl) <| WI.val (fun _ => trivial) rfl rfl rfl (fun c h => by cases h) (Zg rfl rfl) <| WI.nil ?_
    have ob340 := (ob323.step s320 (hOB322 _ _ _ ob323 ne12))
    have ob341 := (ob324.step s320 (hOB322 _ _ _ ob324 ne13))
    refine Z0g [0, 1, 6, 78] _ rfl ?_
    exact J337 ⟨h317, (r281.2 : Int) == 0, r314.2, HF, rfl, S325, s320.le, ob340, ob341, hJ319⟩
   refine Zb <| Z1 <| Wm rfl rfl <| Wv rfl (Z4n rfl rfl) <| Wa rfl rfl <| Z7 <| Z6 <| Z17 HF rfl (fun HF => ?_) (fun HF => ?_)
   ·refine Z1 ?_
    have ob366 := (ob274.step0 s273)
    refine Wv rfl (Zc rfl Z43 (OB.cell ob366 (j := 0) rfl)) <| Wv rfl (Z51 (us := [pt b5 0]) (vs := []) rfl rfl) <| Wa rfl rfl <| Z7 <| Z0a <| Z6 <| Zb <| Z1 <| Wm rfl rfl ?_
    have ob367 := (ob275.step0 s273)
    obtain ⟨r368, hr369, HF⟩ := Z8 HF
    refine Wc rfl (Z99 (us := [pt b5 0]) (vs := []) (caps := []) rfl rfl t_ent_74) (Zg2 _ hr369 S277.sub ob367) ?_
    have hJ376 := (hYst _ _ _ _ _ _ hJ276 s273 Z6c)
    rintro _ w371 ⟨h372, s373, _, _, rfl, ⟨cs374, rfl, r375⟩, rfl⟩
    have S377 := S277.trans0 s373
    refine Wm rfl rfl <| Wv rfl (Z0c rfl rfl) <| Wv rfl (Z0c rfl rfl) ?_
    have ob378 := (ob366.step0 s373)
    have ob379 := (ob367.step0 s373)
    have hJ380 := (hYst _ _ _ _ _ _ hJ376 s373 Z6c)
    refine Z15 (zs := [vi 0, .string b'47, vi 0]) rfl rfl Z60 rfl S377.sub (fun w381 b382 hb383 s384 ob385 => ?_)
    have ne386 : b3 ≠ b382 := ob378.ne_new hb383
    have ne387 : b5 ≠ b382 := ob379.ne_new hb383
    have g388 : w0.heap.size ≤ b382 := by rw [hb383]; exact S377.size
    have S389 := S377.trans0 s384
    obtain rfl := Z62.1 (Rp.mono (s384.le) r375)
    refine Zo (vs := [vi r368.1.kind, .string r368.1.text, vi r368.1.pos]) rfl rfl rfl rfl Z1o (Z5 rfl (Z5 rfl (Z5 rfl Zx))) ob385 S389.sub (by simp) (ds := [vi r368.1.kind, .string r368.1.text, vi r368.1.pos]) rfl (fun w390 s391 ob392 => ?_)
    have S393 := S389.trans1 s391 (.inr g388)
    refine Wa rfl rfl <| Z7 <| Z6 <| Zb <| Z1 ?_
    have ob394 := ((ob378.step0 s384).step1 s391 ne386)
    refine Wv rfl (Zc rfl Z43 (OB.cell ob394 (j := 0) rfl)) <| Wv rfl (Zs rfl) <| Wv rfl (Z2 rfl Z0q) ?_
    have ob395 := ((ob379.step0 s384).step1 s391 ne387)
    refine Wv rfl (Zc rfl Z0f (OB.cell ob395 (j := 1) rfl)) <| Wv rfl (Z2 rfl Ze1) <| Zo (vs := [vi x29]) rfl rfl rfl rfl Z1p (Z5 rfl Zx) ob392 S393.sub (by simp) (ds := [vi r368.1.kind, .string r368.1.text, vi x29]) rfl (fun w396 s397 ob398 => ?_)
    have S399 := S393.trans1 s397 (.inr g388)
    refine Z7 <| Z6 <| Z09 (fun E w430 => ∃ (h429 : Hp) (x435 : YS), Z92 j33 (Z02 j33) x7 x29 r368 x435 = some r ∧ E = [(0, .func (.yield l1) #[] #[]), (1, pt b3 0), (6, vi r368.2)] ∧ Stp ([b5] ++ MY) w0 h0 w430 h429 ∧ Hle h372 h429 ∧ OB w430 h429 b3 T4 [pt b5 0] ∧ OB w430 h429 b5 T6 [.string x7, vi x29] ∧ J x435 w430 h429) ?_ ?_
    ·rintro E w430 ⟨h429, x435, HF, rfl, S432, le431, ob433, ob434, ob436⟩
     refine Z1 <| Wv rfl (Zc rfl Z43 (OB.cell ob433 (j := 0) rfl)) <| Wv rfl (Zs rfl) <| Wv rfl (Z2 rfl Z0q) <| Wv rfl (Zc rfl Z0f (OB.cell ob434 (j := 1) rfl)) <| Wm rfl rfl <| Wv rfl (Z3n rfl rfl) <| Wv rfl (Zs rfl) <| Wv rfl (Z2 rfl Z0q) <| Zo (vs := [vi (IntKind.i64.wrap (x29 + r368.2))]) rfl rfl rfl rfl Z1p (Z5 rfl Zx) ob434 S432.sub (by simp) (ds := [.string x7, vi (IntKind.i64.wrap (x29 + r368.2))]) rfl (fun w437 s438 ob439 => ?_)
     have S440 := S432.trans1 s438 (.inl (by simp))
     refine Z7 <| Z0a <| Z6 <| Z1 ?_
     have ob441 := (ob433.step1 s438 ne11)
     refine Wv rfl (Zc rfl Z43 (OB.cell ob441 (j := 0) rfl)) ?_
     obtain ⟨r442, hr443, HF⟩ := Z8 HF
     refine Wc rfl (Ze (vs := [pt b5 0]) rfl t_ent_66) (Z3s _ hr443 S440.sub ob439) ?_
     have hJ448 := (hYst _ _ _ _ _ _ ob436 s438 (Z91 ne13 ob434 Z6c))
     rintro v444 w445 ⟨h446, s447, rfl, ob449⟩
     have S450 := S440.trans s447 (Zn (.inl (by simp)) Z04)
     refine Z7 ?_
     have ob548 := (ob441.step1 s447 ne11)
     have hJ549 := (hYst _ _ _ _ _ _ hJ448 s447 (Z91 ne13 ob439 Z6c))
     refine Z2c <| Z7y [0, 1] [(0, .func (.yield l1) #[] #[]), (1, pt b3 0)] rfl ?_
     exact IHL34 j33 (Nat.le_refl _) _ _ ⟨h446, r442, x435, HF, rfl, S450, (le26).trans ((le49).trans ((s56.le).trans ((s66.le).trans ((s79.le).trans ((s176.le).trans ((s273.le).trans ((s373.le).trans ((s384.le).trans ((s391.le).trans ((s397.le).trans ((le431).trans ((s438.le).trans s447.le)))))))))))), ob548, ob449, hJ549⟩
    intro J451
    refine Z09 (fun E w415 => ∃ (h414 : Hp) (x418 : Bool) (x421 : YS), Z6l j33 (Z02 j33) x7 x29 r368 x418 x421 = some r ∧ E = [(0, .func (.yield l1) #[] #[]), (1, pt b3 0), (6, vi r368.2), (78, .bool x418)] ∧ Stp ([b5] ++ MY) w0 h0 w415 h414 ∧ Hle h372 h414 ∧ OB w415 h414 b3 T4 [pt b5 0] ∧ OB w415 h414 b5 T6 [.string x7, vi x29] ∧ J x421 w415 h414) ?_ ?_
    ·rintro E w415 ⟨h414, x418, x421, HF, rfl, S417, le416, ob419, ob420, ob422⟩
     refine Z17 HF rfl (fun HF => ?_) (fun HF => ?_)
     ·refine Z00 <| Zi <| Zy <| Zi <| Zi <| Zy <| WQ.ret0 rfl ?_
      obtain rfl := Option.some.inj HF
      exact ⟨_, rfl, h414, S417, rfl, ob420, ob422⟩
     refine Zm <| Z0g [0, 1, 6] _ rfl ?_
     exact J451 ⟨h414, x421, HF, rfl, S417, le416, ob419, ob420, ob422⟩
    intro J424
    refine WC.regionI <| WI.val (fun _ => trivial) rfl rfl rfl (fun c h => by cases h) (Zu rfl) <| WI.val (fun _ => trivial) rfl rfl rfl (fun c h => by cases h) (Z16 (cs := [vi r368.1.kind, .string r368.1.text, vi x29]) rfl Z80 Z1o (OB.cells ob398 0 rfl)) <| WI.val (fun _ => trivial) rfl rfl rfl (fun c h => by cases h) (Zu rfl) ?_
    have hJ400 := (hYst _ _ _ _ _ _ (hYst _ _ _ _ _ _ (hYst _ _ _ _ _ _ hJ380 s384 Z6c) s391 (Z91 (ny_new hMY g388) ob385 Z6c)) s397 (Z91 (ny_new hMY g388) ob392 Z6c))
    have ob410 := (ob394.step1 s397 ne386)
    have ob411 := (ob395.step1 s397 ne387)
    obtain ⟨r401, hr402, HF⟩ := Z8 HF
    refine WI.yield (vs := [.agg #[vi r368.1.kind, .string r368.1.text, vi x29], vi r368.2]) rfl rfl rfl rfl (hY _ _ _ _ _ _ _ hr402 hJ400 S399.size S399.sub (Z62.2 rfl)) ?_
    rintro _ w403 ⟨rfl, h404, M405, hJ406, s407, hM408, hOB409⟩
    have S412 := S399.trans s407 (fun i hi => (hM408 i hi).imp (fun q => List.mem_append_right _ q) id)
    refine WI.val (fun _ => trivial) rfl rfl rfl (fun c h => by cases h) (Z3c rfl) <| WI.val (fun _ => trivial) rfl rfl rfl (fun c h => by cases h) (Zu rfl) <| WI.split 75 (b := !r401.1) rfl (fun hb413 => ?_) (fun hb413 => ?_)
    ·replace HF := bif_t hb413 HF
     refine WI.pass (fun _ => trivial) rfl rfl rfl <| WI.pass (fun _ => trivial) rfl rfl rfl <| WI.val (fun _ => trivial) rfl rfl rfl (fun c h => by cases h) (Zh rfl rfl) <| WI.nil ?_
     have ob425 := (ob410.step s407 (hOB409 _ _ _ ob410 ne12))
     have ob426 := (ob411.step s407 (hOB409 _ _ _ ob411 ne13))
     refine Z0g [0, 1, 6, 78] _ rfl ?_
     exact J424 ⟨h404, true, r401.2, HF, rfl, S412, s407.le, ob425, ob426, hJ406⟩
    replace HF := bif_f hb413 HF
    refine WI.val (fun _ => trivial) rfl rfl rfl (fun c h => by cases h) (Zu rfl) <| WI.val (fun _ => trivial) rfl rfl rfl (fun c h => by cases h) (Z4n rfl rfl) <| WI.val (fun _ => trivial) rfl rfl rfl (fun c h => by cases h) (Zg rfl rfl) <| WI.nil ?_
    have ob427 := (ob410.step s407 (hOB409 _ _ _ ob410 ne12))
    have ob428 := (ob411.step s407 (hOB409 _ _ _ ob411 ne13))
    refine Z0g [0, 1, 6, 78] _ rfl ?_
    exact J424 ⟨h404, (r368.2 : Int) == 0, r401.2, HF, rfl, S412, s407.le, ob427, ob428, hJ406⟩
   refine Zm <| Z0a <| Z6 <| Zb <| Z1 <| Wm rfl rfl ?_
   have ob452 := (ob275.step0 s273)
   obtain ⟨r453, hr454, HF⟩ := Z8 HF
   refine Wc rfl (Z99 (us := [pt b5 0]) (vs := []) (caps := []) rfl rfl t_ent_67) (ok_lexis_scanner_sign _ hr454 S277.sub ob452) ?_
   have ob461 := (ob274.step0 s273)
   have hJ462 := (hYst _ _ _ _ _ _ hJ276 s273 Z6c)
   rintro _ w456 ⟨h457, s458, _, _, rfl, ⟨cs459, rfl, r460⟩, rfl⟩
   have S463 := S277.trans0 s458
   refine Wm rfl rfl <| Wv rfl (Z0c rfl rfl) <| Wv rfl (Z0c rfl rfl) ?_
   have ob464 := (ob461.step0 s458)
   have ob465 := (ob452.step0 s458)
   have hJ466 := (hYst _ _ _ _ _ _ hJ462 s458 Z6c)
   refine Z15 (zs := [vi 0, .string b'47, vi 0]) rfl rfl Z60 rfl S463.sub (fun w467 b468 hb469 s470 ob471 => ?_)
   have ne472 : b3 ≠ b468 := ob464.ne_new hb469
   have ne473 : b5 ≠ b468 := ob465.ne_new hb469
   have g474 : w0.heap.size ≤ b468 := by rw [hb469]; exact S463.size
   have S475 := S463.trans0 s470
   obtain rfl := Z62.1 (Rp.mono (s470.le) r460)
   refine Zo (vs := [vi r453.1.kind, .string r453.1.text, vi r453.1.pos]) rfl rfl rfl rfl Z1o (Z5 rfl (Z5 rfl (Z5 rfl Zx))) ob471 S475.sub (by simp) (ds := [vi r453.1.kind, .string r453.1.text, vi r453.1.pos]) rfl (fun w476 s477 ob478 => ?_)
   have S479 := S475.trans1 s477 (.inr g474)
   refine Wa rfl rfl <| Z7 <| Z6 <| Zb <| Z1 ?_
   have ob480 := ((ob464.step0 s470).step1 s477 ne472)
   refine Wv rfl (Zc rfl Z43 (OB.cell ob480 (j := 0) rfl)) <| Wv rfl (Zs rfl) <| Wv rfl (Z2 rfl Z0q) ?_
   have ob481 := ((ob465.step0 s470).step1 s477 ne473)
   refine Wv rfl (Zc rfl Z0f (OB.cell ob481 (j := 1) rfl)) <| Wv rfl (Z2 rfl Ze1) <| Zo (vs := [vi x29]) rfl rfl rfl rfl Z1p (Z5 rfl Zx) ob478 S479.sub (by simp) (ds := [vi r453.1.kind, .string r453.1.text, vi x29]) rfl (fun w482 s483 ob484 => ?_)
   have S485 := S479.trans1 s483 (.inr g474)
   refine Z7 <| Z6 <| Z09 (fun E w516 => ∃ (h515 : Hp) (x521 : YS), Z94 j33 (Z02 j33) x7 x29 r453 x521 = some r ∧ E = [(0, .func (.yield l1) #[] #[]), (1, pt b3 0), (6, vi r453.2)] ∧ Stp ([b5] ++ MY) w0 h0 w516 h515 ∧ Hle h457 h515 ∧ OB w516 h515 b3 T4 [pt b5 0] ∧ OB w516 h515 b5 T6 [.string x7, vi x29] ∧ J x521 w516 h515) ?_ ?_
   ·rintro E w516 ⟨h515, x521, HF, rfl, S518, le517, ob519, ob520, ob522⟩
    refine Z1 <| Wv rfl (Zc rfl Z43 (OB.cell ob519 (j := 0) rfl)) <| Wv rfl (Zs rfl) <| Wv rfl (Z2 rfl Z0q) <| Wv rfl (Zc rfl Z0f (OB.cell ob520 (j := 1) rfl)) <| Wm rfl rfl <| Wv rfl (Z3n rfl rfl) <| Wv rfl (Zs rfl) <| Wv rfl (Z2 rfl Z0q) <| Zo (vs := [vi (IntKind.i64.wrap (x29 + r453.2))]) rfl rfl rfl rfl Z1p (Z5 rfl Zx) ob520 S518.sub (by simp) (ds := [.string x7, vi (IntKind.i64.wrap (x29 + r453.2))]) rfl (fun w523 s524 ob525 => ?_)
    have S526 := S518.trans1 s524 (.inl (by simp))
    refine Z7 <| Z0a <| Z6 <| Z1 ?_
    have ob527 := (ob519.step1 s524 ne11)
    refine Wv rfl (Zc rfl Z43 (OB.cell ob527 (j := 0) rfl)) ?_
    obtain ⟨r528, hr529, HF⟩ := Z8 HF
    refine Wc rfl (Ze (vs := [pt b5 0]) rfl t_ent_66) (Z3s _ hr529 S526.sub ob525) ?_
    have hJ534 := (hYst _ _ _ _ _ _ ob522 s524 (Z91 ne13 ob520 Z6c))
    rintro v530 w531 ⟨h532, s533, rfl, ob535⟩
    have S536 := S526.trans s533 (Zn (.inl (by simp)) Z04)
    refine Z7 ?_
    have ob550 := (ob527.step1 s533 ne11)
    have hJ551 := (hYst _ _ _ _ _ _ hJ534 s533 (Z91 ne13 ob525 Z6c))
    refine Z2c <| Z7y [0, 1] [(0, .func (.yield l1) #[] #[]), (1, pt b3 0)] rfl ?_
    exact IHL34 j33 (Nat.le_refl _) _ _ ⟨h532, r528, x521, HF, rfl, S536, (le26).trans ((le49).trans ((s56.le).trans ((s66.le).trans ((s79.le).trans ((s176.le).trans ((s273.le).trans ((s458.le).trans ((s470.le).trans ((s477.le).trans ((s483.le).trans ((le517).trans ((s524.le).trans s533.le)))))))))))), ob550, ob535, hJ551⟩
   intro J537
   refine Z09 (fun E w501 => ∃ (h500 : Hp) (x504 : Bool) (x507 : YS), Z67 j33 (Z02 j33) x7 x29 r453 x504 x507 = some r ∧ E = [(0, .func (.yield l1) #[] #[]), (1, pt b3 0), (6, vi r453.2), (78, .bool x504)] ∧ Stp ([b5] ++ MY) w0 h0 w501 h500 ∧ Hle h457 h500 ∧ OB w501 h500 b3 T4 [pt b5 0] ∧ OB w501 h500 b5 T6 [.string x7, vi x29] ∧ J x507 w501 h500) ?_ ?_
   ·rintro E w501 ⟨h500, x504, x507, HF, rfl, S503, le502, ob505, ob506, ob508⟩
    refine Z17 HF rfl (fun HF => ?_) (fun HF => ?_)
    ·refine Z00 <| Zi <| Zy <| Zi <| Zi <| Zy <| WQ.ret0 rfl ?_
     obtain rfl := Option.some.inj HF
     exact ⟨_, rfl, h500, S503, rfl, ob506, ob508⟩
    refine Zm <| Z0g [0, 1, 6] _ rfl ?_
    exact J537 ⟨h500, x507, HF, rfl, S503, le502, ob505, ob506, ob508⟩
   intro J510
   refine WC.regionI <| WI.val (fun _ => trivial) rfl rfl rfl (fun c h => by cases h) (Zu rfl) <| WI.val (fun _ => trivial) rfl rfl rfl (fun c h => by cases h) (Z16 (cs := [vi r453.1.kind, .string r453.1.text, vi x29]) rfl Z80 Z1o (OB.cells ob484 0 rfl)) <| WI.val (fun _ => trivial) rfl rfl rfl (fun c h => by cases h) (Zu rfl) ?_
   have hJ486 := (hYst _ _ _ _ _ _ (hYst _ _ _ _ _ _ (hYst _ _ _ _ _ _ hJ466 s470 Z6c) s477 (Z91 (ny_new hMY g474) ob471 Z6c)) s483 (Z91 (ny_new hMY g474) ob478 Z6c))
   have ob496 := (ob480.step1 s483 ne472)
   have ob497 := (ob481.step1 s483 ne473)
   obtain ⟨r487, hr488, HF⟩ := Z8 HF
   refine WI.yield (vs := [.agg #[vi r453.1.kind, .string r453.1.text, vi x29], vi r453.2]) rfl rfl rfl rfl (hY _ _ _ _ _ _ _ hr488 hJ486 S485.size S485.sub (Z62.2 rfl)) ?_
   rintro _ w489 ⟨rfl, h490, M491, hJ492, s493, hM494, hOB495⟩
   have S498 := S485.trans s493 (fun i hi => (hM494 i hi).imp (fun q => List.mem_append_right _ q) id)
   refine WI.val (fun _ => trivial) rfl rfl rfl (fun c h => by cases h) (Z3c rfl) <| WI.val (fun _ => trivial) rfl rfl rfl (fun c h => by cases h) (Zu rfl) <| WI.split 75 (b := !r487.1) rfl (fun hb499 => ?_) (fun hb499 => ?_)
   ·replace HF := bif_t hb499 HF
    refine WI.pass (fun _ => trivial) rfl rfl rfl <| WI.pass (fun _ => trivial) rfl rfl rfl <| WI.val (fun _ => trivial) rfl rfl rfl (fun c h => by cases h) (Zh rfl rfl) <| WI.nil ?_
    have ob511 := (ob496.step s493 (hOB495 _ _ _ ob496 ne12))
    have ob512 := (ob497.step s493 (hOB495 _ _ _ ob497 ne13))
    refine Z0g [0, 1, 6, 78] _ rfl ?_
    exact J510 ⟨h490, true, r487.2, HF, rfl, S498, s493.le, ob511, ob512, hJ492⟩
   replace HF := bif_f hb499 HF
   refine WI.val (fun _ => trivial) rfl rfl rfl (fun c h => by cases h) (Zu rfl) <| WI.val (fun _ => trivial) rfl rfl rfl (fun c h => by cases h) (Z4n rfl rfl) <| WI.val (fun _ => trivial) rfl rfl rfl (fun c h => by cases h) (Zg rfl rfl) <| WI.nil ?_
   have ob513 := (ob496.step s493 (hOB495 _ _ _ ob496 ne12))
   have ob514 := (ob497.step s493 (hOB495 _ _ _ ob497 ne13))
   refine Z0g [0, 1, 6, 78] _ rfl ?_
   exact J510 ⟨h490, (r453.2 : Int) == 0, r487.2, HF, rfl, S498, s493.le, ob513, ob514, hJ492⟩
  intro J538
  refine Zb <| Z2x (m := 9) [(0, .func (.yield l1) #[] #[]), (1, pt b3 0)] [0, 1] rfl (fun i v w h => match i with | 0 => v = pt b5 0 | 1 => v = pt b5 0 | 2 => v = pt b5 1 | 3 => v = vi x29 | 4 => v = pt b5 0 | 5 => v = pt b5 0 | 6 => v = pt b5 0 | 7 => v = .string x7 | 8 => v = vi (x7.size : Int) | _ => True) Z3f S27.sub rfl rfl rfl rfl rfl ?_ ?_ ?_
  ·intro i v w h w2 h2 hΦ hst
   match i, hΦ with
   | 0, hΦ | 1, hΦ | 2, hΦ | 3, hΦ | 4, hΦ | 5, hΦ | 6, hΦ | 7, hΦ | 8, hΦ => exact hΦ
   | i + 9, _ => exact trivial
  ·refine ⟨?_, ?_, ?_, ?_, ?_, ?_, ?_, ?_, ?_, trivial⟩
   ·intro a w36 h37 s38 hat hF
    have ob39 := (ob28.step0 s38)
    exact Z3 hat rfl (Zc rfl Z43 (OB.cell ob39 (j := 0) rfl)) s38.sub (by exact rfl)
   ·intro a w36 h37 s38 hat hF
    exact Z3 (Z0 hat (hF 0 9 rfl rfl)) rfl (Zs rfl) s38.sub (by exact rfl)
   ·intro a w36 h37 s38 hat hF
    exact Z3 (Z0 hat (hF 1 10 rfl rfl)) rfl (Z2 rfl Z0q) s38.sub (by exact rfl)
   ·intro a w36 h37 s38 hat hF
    have ob40 := (ob30.step0 s38)
    exact Z3 (Z0 hat (hF 2 11 rfl rfl)) rfl (Zc rfl Z0f (OB.cell ob40 (j := 1) rfl)) s38.sub (by exact rfl)
   ·intro a w36 h37 s38 hat hF
    have ob41 := (ob28.step0 s38)
    exact Z3 hat rfl (Zc rfl Z43 (OB.cell ob41 (j := 0) rfl)) s38.sub (by exact rfl)
   ·intro a w36 h37 s38 hat hF
    exact Z3 (Z0 hat (hF 4 13 rfl rfl)) rfl (Zs rfl) s38.sub (by exact rfl)
   ·intro a w36 h37 s38 hat hF
    exact Z3 (Z0 hat (hF 5 14 rfl rfl)) rfl (Z2 rfl Z1w) s38.sub (by exact rfl)
   ·intro a w36 h37 s38 hat hF
    have ob42 := (ob30.step0 s38)
    exact Z3 (Z0 hat (hF 6 15 rfl rfl)) rfl (Zc rfl Z2r (OB.cell ob42 (j := 0) rfl)) s38.sub (by exact rfl)
   intro a w36 h37 s38 hat hF
   exact Z3 (Z0 hat (hF 7 16 rfl rfl)) rfl (Z95 rfl Z08) s38.sub (by exact rfl)
  intro a w36 h37 s38 hat hF
  obtain hv0 := hF 0 9 (by decide) rfl
  obtain hv1 := hF 1 10 (by decide) rfl
  obtain hv2 := hF 2 11 (by decide) rfl
  obtain hv3 := hF 3 12 (by decide) rfl
  obtain hv4 := hF 4 13 (by decide) rfl
  obtain hv5 := hF 5 14 (by decide) rfl
  obtain hv6 := hF 6 15 (by decide) rfl
  obtain hv7 := hF 7 16 (by decide) rfl
  obtain hv8 := hF 8 17 (by decide) rfl
  refine Z7z [(17, vi (x7.size : Int)), (16, .string x7), (15, pt b5 0), (14, pt b5 0), (13, pt b5 0), (12, vi x29), (11, pt b5 1), (10, pt b5 0), (9, pt b5 0), (0, .func (.yield l1) #[] #[]), (1, pt b3 0)] (Z0 (Z0 (Z0 (Z0 (Z0 (Z0 (Z0 (Z0 (Z0 hat hv0) hv1) hv2) hv3) hv4) hv5) hv6) hv7) hv8) ?_
  have S43 := S27.trans0 s38
  refine Wv rfl (Zbt rfl rfl) <| Z7 <| Z6 <| Z17 HF rfl (fun HF => ?_) (fun HF => ?_)
  ·refine Zm ?_
   have ob539 := (ob28.step0 s38)
   have ob540 := (ob30.step0 s38)
   have hJ541 := (hYst _ _ _ _ _ _ ob32 s38 Z6c)
   refine Z0g [0, 1] _ rfl ?_
   exact J538 ⟨h37, HF, rfl, S43, s38.le, ob539, ob540, hJ541⟩
  refine Z4x <| Zz <| Zz <| Z1a ?_
  have ob45 := (ob30.step0 s38)
  have hJ46 := (hYst _ _ _ _ _ _ ob32 s38 Z6c)
  refine Zb0 rfl ?_
  obtain rfl := Option.some.inj HF
  exact ⟨_, rfl, h37, S43, rfl, ob45, hJ46⟩
 have ob552 := (ob10.step1 s21 ne11)
 have hJ553 := (hYst _ _ _ _ _ _ hJ0 s21 (Z91 ne13 ob9 Z6c))
 exact ⟨h20, r16, y2, HF, rfl, S23, Hle.refl _, ob552, ob22, hJ553⟩
theorem Zfb : ∀ k j, j ≤ k → Z4q (Z02 j).lexis_scanner_tokens_1 := by
  intro k
  induction k with
  | zero =>
    intro j hj
    obtain rfl : j = 0 := by omega
    exact (fun _ _ _ _ => by intro h; cases h)
  | succ k ih =>
    intro j hj
    by_cases h : j ≤ k
    · exact ih j h
    · obtain rfl : j = k + 1 := by omega
      exact Zg8 k ih
theorem Zfl (k : Nat) : Z4q (Za8 k) := (Zfb k k (Nat.le_refl _))
def C_lexis_Tokens (φ : ByteArray → Option (List Tok × Int × Int)) : Prop := ∀ ⦃x1 : ByteArray⦄ ⦃r : List Tok × Int × Int⦄, φ x1 = some r → ∀ ⦃w0 : World⦄ ⦃h0 : Hp⦄, Sub h0 w0 →
  Calls Tryz.prog 18 #[.string x1] w0 fun e w1 => ∃ v, e = .returned v ∧ ∃ h1, Stp [] w0 h0 w1 h1 ∧ (∃ u0 u1 u2 : Value, v = .tuple #[u0, u1, u2] ∧ (RS h1 u0 r.1) ∧ (u1 = .int .i64 r.2.1) ∧ (u2 = .int .i64 r.2.2))
def rfParts : Code → Array Tmp × Code × Code
  | .seq _ (.seq _ (.seq _ (.seq _ (.seq (.seq _ (.block _ (.rangeFunc _ p a b))) _)))) => (p, a, b)
  | _ => (#[], .skip, .skip)
def rfOf (f : Func) : Array Tmp × Code × Code := match f.body with
  | some c => rfParts c
  | none => (#[], .skip, .skip)
noncomputable def Z4l (fn : FuncId) (tmps : Array Value) (D : Nat) (st : LoopState) (pe : Option Code) : Loop := { state := st, pending := pe, fn, tmps, params := (rfOf Tryz.f18).1, assign := (rfOf Tryz.f18).2.1, body := (rfOf Tryz.f18).2.2, defers := D }
def TokJ (l D b2 b3 b4 b5 B : Nat) (Lr Ld : Loop) (s : YS) (w : World) (h : Hp) : Prop :=
  h.base ≤ D ∧ ∃ vo, w.heap[l]? = some (.loop (match s.2 with | none => Lr | some _ => Ld)) ∧ w.heap[D]? = some (.deferred (some [])) ∧ OB w h b5 34 [vo] ∧ RS h vo s.1 ∧ Own w h B 38 3 vo s.1.length ∧
    OB w h b2 34 [.slice none 0 0] ∧ OB w h b3 3 [.int .i64 (s.2.getD 0)] ∧ OB w h b4 23 [.int .i64 (if s.2.isSome then 4 else 0)]
theorem TokJ.step {l D b2 b3 b4 b5 B : Nat} {Lr Ld : Loop} {s : YS} {w w1 : World} {h h1 : Hp} {M : List Nat} (j : TokJ l D b2 b3 b4 b5 B Lr Ld s w h) (st : Stp M w h w1 h1) (ym : YM [l, b2, b3, b4, b5] w h M) : TokJ l D b2 b3 b4 b5 B Lr Ld s w1 h1 := by
  obtain ⟨hbD, vo, jl, jD, o5, rs, own, o2, o3, o4⟩ := j
  have nin : ∀ b ∈ [l, b2, b3, b4, b5], b ∉ M := fun b hb hm => (ym b hm).1 hb
  have hDM : D ∉ M := fun hm => by
    obtain ⟨_, T, cs, ob⟩ := ym D hm
    have q := ob.heap; rw [jD] at q; cases q
  refine ⟨by rw [st.eqb]; exact hbD, vo, ?_, ?_, o5.step st (nin _ (by simp)), rs.mono st.le, own.step st (fun b hb => ?_), o2.step st (nin _ (by simp)), o3.step st (nin _ (by simp)), o4.step st (nin _ (by simp))⟩
  · rw [st.block l (Array.getElem?_eq_some_iff.1 jl).1 (nin _ (by simp))]; exact jl
  · rw [st.block D (Array.getElem?_eq_some_iff.1 jD).1 hDM]; exact jD
  · obtain ⟨_, T, cs, ob⟩ := ym b hb
    exact own.ne_obS1 rs ob
theorem tok_round {fn : FuncId} {a : Act} {E : Env} {l D b2 b3 b4 b5 B : Nat} (hE : At 33 E a) (hE2 : lk E 2 = some (.pointer (some ⟨b2, 0, none⟩))) (hE3 : lk E 3 = some (.pointer (some ⟨b3, 0, none⟩))) (hE4 : lk E 4 = some (.pointer (some ⟨b4, 0, none⟩))) (hE5 : lk E 5 = some (.pointer (some ⟨b5, 0, none⟩)))
    (n23 : b2 ≠ b3) (n24 : b2 ≠ b4) (n34 : b3 ≠ b4) (n25 : b2 ≠ b5) (n35 : b3 ≠ b5) (n45 : b4 ≠ b5) (hlD : D + 1 = l) (hDB : D ≤ B) :
    ∀ (s : YS) (t : Tok) (n : Int) (r : Bool × YS) (w : World) (h : Hp) (cs : List Value), yfTok s t n = some r → TokJ l D b2 b3 b4 b5 B (Z4l fn a.tmps D .ready none) (Z4l fn a.tmps D .done (some .ret)) s w h → B ≤ w.heap.size → Sub h w → Rp.R h t cs →
      YieldAt Fence.wide 0 Tryz.prog l #[.agg cs.toArray, .int .i64 n] w fun e w1 => ∃ b, e = .returned (.bool b) ∧ b = r.1 ∧ ∃ h1 M, TokJ l D b2 b3 b4 b5 B (Z4l fn a.tmps D .ready none) (Z4l fn a.tmps D .done (some .ret)) r.2 w1 h1 ∧ Stp M w h w1 h1 ∧ (∀ i ∈ M, i ∈ [l, b2, b3, b4, b5] ∨ B ≤ i) ∧ ∀ b T cs, OB w h b T cs → b ∉ [l, b2, b3, b4, b5] → b ∉ M := by
  have c34 : Zhb Tryz.prog 34 = some 1 := by kernel_rfl
  have z38 : tZero Tryz.prog 38 = some (.agg #[.int .i64 0, .string ⟨#[]⟩, .int .i64 0]) := by kernel_rfl
  rintro ⟨so, sa⟩ t n r w h cs hr ⟨hbD, vo, jl, jD, o5, rs, own, o2, o3, o4⟩ hB hs hR
  have hbB : h.base ≤ B := Nat.le_trans hbD hDB
  have hbl : h.base ≤ l := by omega
  replace hlD : l ≠ D := by omega
  cases sa with
  | some q => simp [yfTok] at hr
  | none =>
  obtain rfl := Z62.1 hR
  replace jl : w.heap[l]? = some (.loop (Z4l fn a.tmps D .ready none)) := jl
  replace o3 : OB w h b3 3 [.int .i64 0] := o3
  replace o4 : OB w h b4 23 [.int .i64 0] := o4
  replace rs : RS h vo so := rs
  replace own : Own w h B 38 3 vo so.length := own
  have hp : (rfOf Tryz.f18).1 = #[17, 18] := by kernel_rfl
  have hlw : l < w.heap.size := (Array.getElem?_eq_some_iff.1 jl).1
  have lne : ∀ {b T : Nat} {cs : List Value}, OB w h b T cs → b ≠ l := fun ob q => by subst q; have q := ob.heap; rw [jl] at q; cases q
  refine yieldAt_of (nn := 33) (E0 := (18, .int .i64 n) :: (17, .agg #[.int .i64 t.kind, .string t.text, .int .i64 t.pos]) :: E) jl rfl ?_ ?_
  · have hat2 := (hE.put (d := 17) (by decide) (.agg #[.int .i64 t.kind, .string t.text, .int .i64 t.pos])).put (d := 18) (by decide) (.int .i64 n)
    have e : ((Z4l fn a.tmps D .ready none).params.zip #[Value.agg #[.int .i64 t.kind, .string t.text, .int .i64 t.pos], .int .i64 n]).foldl (fun tmps (t, a) => tmps.setIfInBounds t a) (Z4l fn a.tmps D .ready none).tmps = (((a.put (some 17) (.agg #[.int .i64 t.kind, .string t.text, .int .i64 t.pos])).put (some 18) (.int .i64 n)).tmps) := by
      simp [Z4l, hp, Act.put]
    rw [e]
    exact ⟨rfl, hat2.size, hat2.slot⟩
  refine WZ.seq <| WZ.region ?_
  refine WI.val (fun _ => trivial) rfl rfl rfl (fun c h => by cases h) (ov_allocN z38 rfl) ?_
  have s1 := Zcu hs (.cells #[.int .i64 0, .string ⟨#[]⟩, .int .i64 0] 38)
  have ob7 := alloc_ob hs [.int .i64 0, .string ⟨#[]⟩, .int .i64 0] 38
  refine WI.unit (fun _ => trivial) rfl rfl (fun c h => by cases h) (ou_store (vs := [.int .i64 t.kind, .string t.text, .int .i64 t.pos]) (ds := [.int .i64 t.kind, .string t.text, .int .i64 t.pos]) rfl rfl rfl Z1o (Z5 rfl (Z5 rfl (Z5 rfl Zx))) ob7 (by simp) rfl) ?_
  have s2 := Zby s1.sub ob7 [.int .i64 t.kind, .string t.text, .int .i64 t.pos]
  replace ob7 := Zgs ob7 [.int .i64 t.kind, .string t.text, .int .i64 t.pos]
  refine WI.nil <| WQ.seqD <| WZ.region <| WI.val (fun _ => trivial) rfl rfl rfl (fun c h => by cases h) (ov_assign rfl) <| WI.nil ?_
  have jl2 : ((w.alloc (.cells #[.int .i64 0, .string ⟨#[]⟩, .int .i64 0] 38)).setRow w.heap.size #[.int .i64 t.kind, .string t.text, .int .i64 t.pos]).heap[l]? = some (.loop (Z4l fn a.tmps D .ready none)) := by
    rw [s2.block l (by have := s1.size; omega) (by simp; omega), s1.block l hlw (by simp)]; exact jl
  refine WQ.begin jl2 rfl ?_
  have s3 := Ze5 (o' := .loop { Z4l fn a.tmps D .ready none with state := .busy }) s2.sub jl2 rfl hbl
  generalize hw3 : ((w.alloc (.cells #[.int .i64 0, .string ⟨#[]⟩, .int .i64 0] 38)).setRow w.heap.size #[.int .i64 t.kind, .string t.text, .int .i64 t.pos]) = w2 at s2 s3 jl2 ob7
  have jl3 : (w2.putObj l (.loop { Z4l fn a.tmps D .ready none with state := .busy })).heap[l]? = some (.loop { Z4l fn a.tmps D .ready none with state := .busy }) := World.putObj_heap_same (Array.getElem?_eq_some_iff.1 jl2).1
  generalize hw4 : w2.putObj l (.loop { Z4l fn a.tmps D .ready none with state := .busy }) = w3 at s3 jl3
  have S12 : Stp [] w h w2 h := s1.trans1 s2 (.inr (Nat.le_refl _))
  have S3 : Stp [l] w h w3 h := ((Stp.refl hs [l]).trans0 S12).trans1 s3 (.inl (by simp))
  have n7 : ∀ {b T : Nat} {cs : List Value}, OB w h b T cs → b ≠ w.heap.size := fun ob => by have := ob.lt; omega
  have l7 : w.heap.size ≠ l := by omega
  replace ob7 := ob7.step1 s3 l7
  have jD3 : w3.heap[D]? = some (.deferred (some [])) := (S3.block D (Array.getElem?_eq_some_iff.1 jD).1 (by simpa using hlD.symm)).trans jD
  refine WZ.block <| WZ.seq <| WZ.seq <| WZ.region <| WI.val (fun _ => trivial) rfl rfl rfl (fun c h => by cases h) (Zu rfl) <| WI.val (fun _ => trivial) rfl rfl rfl (fun c h => by cases h) (Z4n rfl rfl) <| WI.nil <| WQ.seqD ?_
  by_cases hn : n = 0
  · -- no token: it leaves
    subst hn
    simp [yfTok] at hr
    subst hr
    refine WZ.condT rfl <| WZ.seq <| WZ.drawn Z3f s3.sub (fun w4 s4 => ?_)
    have q2 := (o2.step1 S3 (lne o2)).step0 s4
    have q3 := (o3.step1 S3 (lne o3)).step0 s4
    have q4 := (o4.step1 S3 (lne o4)).step0 s4
    have q7 := ob7.step0 s4
    have s5 := Zby s4.sub q2 [.slice none 0 0]
    have p2 := Zgs q2 [.slice none 0 0]
    have s6 := Zby s5.sub (q3.step1 s5 n23.symm) [.int .i64 t.pos]
    have p3 := Zgs (q3.step1 s5 n23.symm) [.int .i64 t.pos]
    have s7 := Zby s6.sub ((q4.step1 s5 n24.symm).step1 s6 n34.symm) [.int .i64 4]
    have p4 := Zgs ((q4.step1 s5 n24.symm).step1 s6 n34.symm) [.int .i64 4]
    generalize hv5 : w4.setRow b2 #[.slice none 0 0] = w5 at s5 p2 s6 p3 s7 p4
    generalize hv6 : w5.setRow b3 #[.int .i64 t.pos] = w6 at s6 p3 s7 p4
    generalize hv7 : w6.setRow b4 #[.int .i64 4] = w7 at s7 p4
    have r2 := (p2.step1 s6 n23).step1 s7 n24
    have r3 := p3.step1 s7 n34
    have l2 := lne o2
    have l3 := lne o3
    have l4 := lne o4
    have l5 := lne o5
    have S7 : Stp [l, b2, b3, b4, b5] w h w7 h := (((((Stp.refl hs [l, b2, b3, b4, b5]).trans S3 (by simp)).trans0 s4).trans1 s5 (.inl (by simp))).trans1 s6 (.inl (by simp))).trans1 s7 (.inl (by simp))
    have jl7 : w7.heap[l]? = some (.loop { Z4l fn a.tmps D .ready none with state := .busy }) := by
      have h3 : l < w3.heap.size := (Array.getElem?_eq_some_iff.1 jl3).1
      rw [s7.block l (by have := s4.size; have := s5.size; have := s6.size; omega) (by simpa using l4.symm), s6.block l (by have := s4.size; have := s5.size; omega) (by simpa using l3.symm), s5.block l (by have := s4.size; omega) (by simpa using l2.symm), s4.block l h3 (by simp)]
      exact jl3
    have s8 := Ze5 (o' := .loop { Z4l fn a.tmps D .ready none with state := .done, pending := some .ret }) s7.sub jl7 rfl hbl
    have fin : ∀ E, WQ 33 (roundPost Tryz.prog l fun e w1 => ∃ b, e = .returned (.bool b) ∧ b = false ∧ ∃ h1 M, TokJ l D b2 b3 b4 b5 B (Z4l fn a.tmps D .ready none) (Z4l fn a.tmps D .done (some .ret)) (so, some t.pos) w1 h1 ∧ Stp M w h w1 h1 ∧ (∀ i ∈ M, i ∈ [l, b2, b3, b4, b5] ∨ B ≤ i) ∧ ∀ b T cs, OB w h b T cs → b ∉ [l, b2, b3, b4, b5] → b ∉ M) .ret E w7 := fun E => by
      refine WQ.roundR (L := { Z4l fn a.tmps D .ready none with state := .busy }) jl7 ⟨false, rfl, rfl, h, [l, b2, b3, b4, b5], ?_, S7.trans1 s8 (.inl (by simp)), fun i hi => .inl hi, fun b T cs _ hb => hb⟩
      have S8 := S7.trans1 s8 (.inl (by simp))
      have lD : l ≠ D := hlD
      refine ⟨hbD, vo, World.putObj_heap_same (Array.getElem?_eq_some_iff.1 jl7).1, ?_, ?_, rs, ?_, (r2.step1 s8 l2), (r3.step1 s8 l3), (p4.step1 s8 l4)⟩
      · have hDw : D < w3.heap.size := (Array.getElem?_eq_some_iff.1 jD3).1
        have d2 : D ≠ b2 := fun q => by subst q; have q := o2.heap; rw [jD] at q; cases q
        have d3 : D ≠ b3 := fun q => by subst q; have q := o3.heap; rw [jD] at q; cases q
        have d4 : D ≠ b4 := fun q => by subst q; have q := o4.heap; rw [jD] at q; cases q
        rw [s8.block D (by have := s4.size; have := s5.size; have := s6.size; have := s7.size; omega) (by simpa using hlD.symm), s7.block D (by have := s4.size; have := s5.size; have := s6.size; omega) (by simpa using d4), s6.block D (by have := s4.size; have := s5.size; omega) (by simpa using d3), s5.block D (by have := s4.size; omega) (by simpa using d2), s4.block D hDw (by simp)]
        exact jD3
      · exact ((((((o5.step1 S3 l5).step0 s4).step1 s5 n25.symm).step1 s6 n35.symm).step1 s7 n45.symm).step1 s8 l5)
      · refine own.step S8 (fun b hb => ?_)
        simp only [List.mem_cons, List.not_mem_nil, or_false] at hb
        rcases hb with rfl | rfl | rfl | rfl | rfl
        · intro q
          rcases own with ⟨rfl, _⟩ | ⟨g, cap, cur, rfl, hbg, hg, _⟩
          · simp [Value.ownBlock] at q
          · simp [Value.ownBlock] at q; subst q; rw [jl] at hg; cases hg
        · exact own.ne_obS1 rs o2
        · exact own.ne_obS1 rs o3
        · exact own.ne_obS1 rs o4
        · exact own.ne_obS1 rs o5
    have load : ∀ {E : Env} {dd : Option Tmp} {ty : TypeId} {ps : String} {af : Array Edge} {g : Option (Nat × Bool)} {x : Operand} {wx : World}, ev E x = some (.pointer (some ⟨w.heap.size, 2, none⟩)) → OB wx h w.heap.size 38 [.int .i64 t.kind, .string t.text, .int .i64 t.pos] → OV Tryz.prog ⟨dd, .load 3 x, ty, ps, af, g⟩ E wx (.int .i64 t.pos) wx := fun hx ob => Zc hx Z0f (OB.cell ob (j := 2) rfl)
    have f38 : fOff Tryz.prog 38 2 = some 2 := by kernel_rfl
    have st2 : ∀ {E : Env} {dd : Option Tmp} {ty : TypeId} {ps : String} {af : Array Edge} {g : Option (Nat × Bool)} {x y : Operand}, ev E x = some (.pointer (some ⟨b2, 0, none⟩)) → ev E y = some (.slice none 0 0) → OU Tryz.prog ⟨dd, .store 34 x y, ty, ps, af, g⟩ E w4 w5 := fun hx hy => by
      rw [← hv5]; exact ou_store (vs := [.slice none 0 0]) (ds := [.slice none 0 0]) hx hy rfl c34 (Z5 rfl Zx) q2 (by simp) rfl
    have st3 : ∀ {E : Env} {dd : Option Tmp} {ty : TypeId} {ps : String} {af : Array Edge} {g : Option (Nat × Bool)} {x y : Operand}, ev E x = some (.pointer (some ⟨b3, 0, none⟩)) → ev E y = some (.int .i64 t.pos) → OU Tryz.prog ⟨dd, .store 3 x y, ty, ps, af, g⟩ E w5 w6 := fun hx hy => by
      rw [← hv6]; exact ou_store (vs := [.int .i64 t.pos]) (ds := [.int .i64 t.pos]) hx hy rfl Z1p (Z5 rfl Zx) (q3.step1 s5 n23.symm) (by simp) rfl
    have st4 : ∀ {E : Env} {dd : Option Tmp} {ty : TypeId} {ps : String} {af : Array Edge} {g : Option (Nat × Bool)} {x y : Operand}, ev E x = some (.pointer (some ⟨b4, 0, none⟩)) → ev E y = some (.int .i64 4) → OU Tryz.prog ⟨dd, .store 23 x y, ty, ps, af, g⟩ E w6 w7 := fun hx hy => by
      rw [← hv7]; exact ou_store (vs := [.int .i64 4]) (ds := [.int .i64 4]) hx hy rfl Z5i (Z5 rfl Zx) ((q4.step1 s5 n24.symm).step1 s6 n34.symm) (by simp) rfl
    have F : ∀ f : FuncId, (Fence.wide.inRound l).fn f := fun _ => trivial
    refine WB.two (i := 0) (j := 2) (by kernel_rfl) rfl rfl ?_ ?_
    · refine WI.val F rfl rfl rfl (fun c h => by cases h) (Z2 rfl f38) <| WI.nil <| Zew ?_
      refine WB.two (i := 1) (j := 2) (by kernel_rfl) rfl rfl ?_ ?_
      · refine WI.val F rfl rfl rfl (fun c h => by cases h) (load rfl q7) <| WI.nil <| Zew ?_
        refine WB.one (i := 2) (by kernel_rfl) rfl ?_
        refine WI.unit F rfl rfl (fun c h => by cases h) (st2 hE2 rfl) <| WI.nil <| Zew ?_
        refine WB.one (i := 3) (by kernel_rfl) rfl ?_
        refine WI.unit F rfl rfl (fun c h => by cases h) (st3 hE3 rfl) <| WI.nil <| Zew ?_
        refine WB.one (i := 4) (by kernel_rfl) rfl ?_
        refine WI.unit F rfl rfl (fun c h => by cases h) (st4 hE4 rfl) <| WI.nil <| Zew ?_
        exact WB.fin (by kernel_rfl) <| WQ.seqD <| WZ.ret <| WQ.thenRetD <| WQ.blockRetD <| fin _
      · refine WI.unit F rfl rfl (fun c h => by cases h) (st2 hE2 rfl) <| WI.nil <| Zew ?_
        refine WB.one (i := 1) (by kernel_rfl) rfl ?_
        refine WI.val F rfl rfl rfl (fun c h => by cases h) (load rfl (q7.step1 s5 (n7 o2).symm)) <| WI.nil <| Zew ?_
        refine WB.one (i := 3) (by kernel_rfl) rfl ?_
        refine WI.unit F rfl rfl (fun c h => by cases h) (st3 hE3 rfl) <| WI.nil <| Zew ?_
        refine WB.one (i := 4) (by kernel_rfl) rfl ?_
        refine WI.unit F rfl rfl (fun c h => by cases h) (st4 hE4 rfl) <| WI.nil <| Zew ?_
        exact WB.fin (by kernel_rfl) <| WQ.seqD <| WZ.ret <| WQ.thenRetD <| WQ.blockRetD <| fin _
    · refine WI.unit F rfl rfl (fun c h => by cases h) (st2 hE2 rfl) <| WI.nil <| Zew ?_
      refine WB.one (i := 0) (by kernel_rfl) rfl ?_
      refine WI.val F rfl rfl rfl (fun c h => by cases h) (Z2 rfl f38) <| WI.nil <| Zew ?_
      refine WB.one (i := 1) (by kernel_rfl) rfl ?_
      refine WI.val F rfl rfl rfl (fun c h => by cases h) (load rfl (q7.step1 s5 (n7 o2).symm)) <| WI.nil <| Zew ?_
      refine WB.one (i := 3) (by kernel_rfl) rfl ?_
      refine WI.unit F rfl rfl (fun c h => by cases h) (st3 hE3 rfl) <| WI.nil <| Zew ?_
      refine WB.one (i := 4) (by kernel_rfl) rfl ?_
      refine WI.unit F rfl rfl (fun c h => by cases h) (st4 hE4 rfl) <| WI.nil <| Zew ?_
      exact WB.fin (by kernel_rfl) <| WQ.seqD <| WZ.ret <| WQ.thenRetD <| WQ.blockRetD <| fin _
  · -- a token: it is noted
    have hnb : (n == 0) = false := by simpa using hn
    unfold yfTok at hr
    simp only [hnb, cond_false] at hr
    replace hr : (if so.length + 1 < 1000000000 then some (true, (so ++ [t], none)) else none) = some r := hr
    obtain ⟨hlen, hr⟩ := Zdu hr
    obtain rfl := Option.some.inj hr
    refine WZ.condF (by rw [← hnb]; rfl) <| WZ.skip <| WQ.seqD <| WZ.region ?_
    have l5 := lne o5
    have q5 := o5.step1 S3 l5
    have F : ∀ f : FuncId, (Fence.wide.inRound l).fn f := fun _ => trivial
    refine WI.val F rfl rfl rfl (fun c h => by cases h) (Zc hE5 t_agg_34 (OB.cell q5 (j := 0) rfl)) ?_
    refine WI.val F rfl rfl rfl (fun c h => by cases h) (Z16 (cs := [.int .i64 t.kind, .string t.text, .int .i64 t.pos]) rfl Z80 Z1o (OB.cells ob7 0 rfl)) ?_
    refine WI.val F rfl rfl rfl (fun c h => by cases h) (ov_buildSliceD (us := [.agg #[.int .i64 t.kind, .string t.text, .int .i64 t.pos]]) (cs := [.int .i64 t.kind, .string t.text, .int .i64 t.pos]) rfl Zfj Z1o z38 rfl (Z4a rfl Zc3) rfl rfl rfl) ?_
    have s4 := alloc_row s3.sub [.int .i64 t.kind, .string t.text, .int .i64 t.pos] 38
    have rs1 : RS (hadd h w3.heap.size [.int .i64 t.kind, .string t.text, .int .i64 t.pos]) (.slice (some ⟨w3.heap.size, 0, none⟩) 1 1) [t] := RS.litL _ [[.int .i64 t.kind, .string t.text, .int .i64 t.pos]] rfl rfl (fun o => hadd_new h _ _ o) ⟨Z62.2 rfl, trivial⟩
    generalize hx4 : w3.alloc (.cells [Value.int .i64 t.kind, .string t.text, .int .i64 t.pos].toArray 38) = w4 at s4
    generalize hh4 : hadd h w3.heap.size [Value.int .i64 t.kind, .string t.text, .int .i64 t.pos] = h4 at s4 rs1
    have own3 : Own w3 h B 38 3 vo so.length := own.step S3 (fun b hb => by
      simp only [List.mem_cons, List.not_mem_nil, or_false] at hb; subst hb
      intro q
      rcases own with ⟨rfl, _⟩ | ⟨g, cap, cur, rfl, hbg, hg, _⟩
      · simp [Value.ownBlock] at q
      · simp [Value.ownBlock] at q; subst q; rw [jl] at hg; cases hg)
    have own4 := own3.step0 s4
    have hbase4 : B ≤ w4.heap.size := Nat.le_trans hB (Nat.le_trans S3.size s4.size)
    obtain ⟨v', w5, h5, hrun, r1, r2, s5, r4⟩ := run_append (P := Tryz.prog) (ty := 34) Zfj Z1o z38 rfl t_bytes_38 rfl own4 (rs.mono (S3.le.trans s4.le)) rs1 (by simpa using hlen) s4.sub hbase4 (by rw [s4.eqb]; exact hbB)
    refine WI.val F rfl rfl rfl (fun c h => by cases h) (ov_append rfl rfl hrun) ?_
    have q54 := q5.step0 s4
    have q55 := q54.step s5 (fun hm => own4.ne_obS (rs.mono (S3.le.trans s4.le)) q54 b5 hm rfl)
    refine WI.unit F rfl rfl (fun c h => by cases h) (ou_store (vs := [v']) (ds := [v']) hE5 rfl (RS.cellsL r1) c34 (Z5 r1.one Zx) q55 (by simp) rfl) ?_
    have s6 := Zby s5.sub q55 [v']
    have p5 := Zgs q55 [v']
    generalize hv6 : w5.setRow b5 [v'].toArray = w6 at s6 p5
    have rowN : ∀ {b T : Nat} {cs : List Value}, OB w h b T cs → b ∉ vo.ownBlock.toList := fun ob hm => own.ne_obS rs ob _ hm rfl
    have row4 : ∀ {b T : Nat} {cs : List Value}, OB w4 h4 b T cs → b ∉ vo.ownBlock.toList := fun ob hm => own4.ne_obS (rs.mono (S3.le.trans s4.le)) ob _ hm rfl
    have rowl : l ∉ vo.ownBlock.toList := fun hm => by
      rcases own with ⟨rfl, _⟩ | ⟨g, cap, cur, rfl, hbg, hg, _⟩
      · simp [Value.ownBlock] at hm
      · simp [Value.ownBlock] at hm; subst hm; rw [jl] at hg; cases hg
    have rowD : D ∉ vo.ownBlock.toList := fun hm => by
      rcases own with ⟨rfl, _⟩ | ⟨g, cap, cur, rfl, hbg, hg, _⟩
      · simp [Value.ownBlock] at hm
      · simp [Value.ownBlock] at hm; subst hm; rw [jD] at hg; cases hg
    have h3 : l < w3.heap.size := (Array.getElem?_eq_some_iff.1 jl3).1
    have z4 := s4.size
    have z5 := s5.size
    have jl6 : w6.heap[l]? = some (.loop { Z4l fn a.tmps D .ready none with state := .busy }) := by
      rw [s6.block l (by omega) (by simpa using l5.symm), s5.block l (by omega) rowl, s4.block l h3 (by simp)]
      exact jl3
    have hDw : D < w3.heap.size := (Array.getElem?_eq_some_iff.1 jD3).1
    have d5 : D ≠ b5 := fun q => by subst q; have q := o5.heap; rw [jD] at q; cases q
    have jD6 : w6.heap[D]? = some (.deferred (some [])) := by
      rw [s6.block D (by omega) (by simpa using d5), s5.block D (by omega) rowD, s4.block D hDw (by simp)]
      exact jD3
    have hb6 : h5.base ≤ l := by rw [s5.eqb, s4.eqb]; exact hbl
    have s7 := Ze5 (o' := .loop { Z4l fn a.tmps D .ready none with state := .ready, pending := none }) s6.sub jl6 rfl hb6
    refine WI.nil <| WQ.blockND <| WQ.roundN jl6 ⟨true, rfl, rfl, h5, vo.ownBlock.toList ++ [l, b2, b3, b4, b5], ?_, ?_, ?_, ?_⟩
    · have lb := fun {b T : Nat} {cs : List Value} (ob : OB w h b T cs) => lne ob
      have keep : ∀ {b T : Nat} {cs : List Value}, OB w h b T cs → b ≠ b5 → OB (w6.putObj l (.loop { Z4l fn a.tmps D .ready none with state := .ready, pending := none })) h5 b T cs := fun {b T cs} ob hne =>
        ((((ob.step1 S3 (lne ob)).step0 s4).step s5 (row4 ((ob.step1 S3 (lne ob)).step0 s4))).step1 s6 hne).step1 s7 (lne ob)
      refine ⟨by rw [s5.eqb, s4.eqb]; exact hbD, v', World.putObj_heap_same (Array.getElem?_eq_some_iff.1 jl6).1, ?_, p5.step1 s7 l5, r1.mono ((s6.le).trans s7.le), ?_, keep o2 n25, keep o3 n35, keep o4 n45⟩
      · rw [World.putObj_heap_other (Ne.symm hlD)]; exact jD6
      · refine (r2.step s6 (fun b hb => ?_)).step s7 (fun b hb => ?_)
        · simp only [List.mem_cons, List.not_mem_nil, or_false] at hb; subst hb
          exact r2.ne_obS1 r1 q55
        · simp only [List.mem_cons, List.not_mem_nil, or_false] at hb; subst hb
          have r3 := r2.step s6 (fun b hb => by simp only [List.mem_cons, List.not_mem_nil, or_false] at hb; subst hb; exact r2.ne_obS1 r1 q55)
          intro q
          rcases r3 with ⟨rfl, _⟩ | ⟨g, cap, cur, rfl, hbg, hg, _⟩
          · simp [Value.ownBlock] at q
          · simp [Value.ownBlock] at q; subst q; rw [jl6] at hg; cases hg
    · exact (((((Stp.refl hs _).trans S3 (by simp)).trans0 s4).trans s5 (fun i hi => .inl (List.mem_append_left _ hi))).trans1 s6 (.inl (by simp))).trans1 s7 (.inl (by simp))
    · intro i hi
      rcases List.mem_append.1 hi with hi | hi
      · exact .inr (own.base_le i hi)
      · exact .inl hi
    · intro b T cs ob hb hm
      rcases List.mem_append.1 hm with hm | hm
      · exact rowN ob hm
      · exact hb hm
theorem ok_lexis_Tokens (k : Nat) : C_lexis_Tokens (Zg9 k) := by
  intro x1 r HF w0 h0 hs0
  simp only [Zg9, toksM] at HF
  have z34 : tZero Tryz.prog 34 = some (.slice none 0 0) := by kernel_rfl
  have c34 : Zhb Tryz.prog 34 = some 1 := by kernel_rfl
  have z38 : tZero Tryz.prog 38 = some (.agg #[.int .i64 0, .string ⟨#[]⟩, .int .i64 0]) := by kernel_rfl
  refine enterM (n := 33) Tryz.func18 rfl Tryz.ntmps18 rfl [(0, .string x1)] rfl ?_
  refine Zb <| Z1 ?_
  refine Z15 (zs := [.slice none 0 0]) rfl rfl z34 rfl hs0 (fun w1 b2 hb2 s1 ob2 => ?_)
  refine Z15 (zs := [.int .i64 0]) rfl rfl t_zero_3 rfl s1.sub (fun w2 b3 hb3 s2 ob3 => ?_)
  refine Z15 (zs := [.int .i64 0]) rfl rfl t_zero_23 rfl s2.sub (fun w3 b4 hb4 s3 ob4 => ?_)
  refine Z7 <| Z6 ?_
  have S3 : Stp [] w0 h0 w3 h0 := (s1.trans0 s2).trans0 s3
  have n23 : b2 ≠ b3 := ob2.ne_new hb3
  have n24 : b2 ≠ b4 := (ob2.step0 s2).ne_new hb4
  have n34 : b3 ≠ b4 := ob3.ne_new hb4
  replace ob2 := (ob2.step0 s2).step0 s3
  replace ob3 := ob3.step0 s3
  have g2 : w0.heap.size ≤ b2 := by omega
  have g3 : w0.heap.size ≤ b3 := by rw [hb3]; exact s1.size
  have g4 : w0.heap.size ≤ b4 := by rw [hb4]; exact (s1.trans0 s2).size
  refine Zb <| Zb <| Z1 <| Wm rfl rfl <| WL.val rfl rfl rfl (Z95 rfl Z08) <| WL.val rfl rfl rfl (Ze7 rfl rfl) <| Z7 <| Z6 ?_
  refine Z17 HF rfl (fun HF => ?_) (fun HF => ?_)
  · obtain rfl := Option.some.inj HF
    refine Zb <| Z1 ?_
    refine Zo (vs := [.slice none 0 0]) rfl rfl rfl rfl c34 (Z5 rfl Zx) ob2 S3.sub (by simp) (ds := [.slice none 0 0]) rfl (fun w5 s5 ob2 => ?_)
    refine Zo (vs := [.int .i64 0]) rfl rfl rfl rfl Z1p (Z5 rfl Zx) (ob3.step1 s5 n23.symm) s5.sub (by simp) (ds := [.int .i64 0]) rfl (fun w6 s6 ob3 => ?_)
    refine Zo (vs := [.int .i64 5]) rfl rfl rfl rfl Z5i (Z5 rfl Zx) ((ob4.step1 s5 n24.symm).step1 s6 n34.symm) s6.sub (by simp) (ds := [.int .i64 5]) rfl (fun w7 s7 ob4 => ?_)
    refine Z7 <| Z6 <| Z00 <| Zi ?_
    refine WQ.M0 (rg3 rfl (Z5k rfl (Z25 t_agg_34 (OB.cell ((ob2.step1 s6 n23).step1 s7 n24) (j := 0) rfl))) (Z5k rfl (Z25 Z0f (OB.cell (ob3.step1 s7 n34) (j := 0) rfl))) (Z5k rfl (Z25 Z5c (OB.cell ob4 (j := 0) rfl)))) ?_
    exact ⟨_, rfl, h0, ((S3.trans1 s5 (.inr g2)).trans1 s6 (.inr g3)).trans1 s7 (.inr g4), _, _, _, rfl, RS.nil _, rfl, rfl⟩
  refine Zm <| Z6 ?_
  refine Zb <| Z1 ?_
  refine Z15 (zs := [.slice none 0 0]) rfl rfl z34 rfl S3.sub (fun w5 b5 hb5 s5 ob5 => ?_)
  refine Z7 <| Z6 ?_
  have n25 := ob2.ne_new hb5
  have n35 := ob3.ne_new hb5
  have n45 := ob4.ne_new hb5
  have S5 := S3.trans0 s5
  have g5 : w0.heap.size ≤ b5 := by rw [hb5]; exact S3.size
  -- the scanner
  refine Zb <| Z1 <| Wm rfl rfl <| WL.val rfl rfl rfl (Z38 (vs := [(0, .string x1)]) (cs := [.string x1, .int .i64 0]) rfl (by kernel_rfl : tPlaces Tryz.prog 81 = some [(0, 1), (1, 1)]) (by kernel_rfl : tZero Tryz.prog 81 = some (.agg #[.string ⟨#[]⟩, .int .i64 0])) rfl) ?_
  refine Zhq (cs := [.string x1, .int .i64 0]) rfl rfl rfl rfl S5.sub (fun w6 b6 hb6 s6 ob6 => ?_)
  refine Wa rfl rfl <| Z7 <| Z6 ?_
  have S6 := S5.trans0 s6
  have n26 : b2 ≠ b6 := (ob2.step0 s5).ne_new hb6
  have n36 : b3 ≠ b6 := (ob3.step0 s5).ne_new hb6
  have n46 : b4 ≠ b6 := (ob4.step0 s5).ne_new hb6
  have n56 : b5 ≠ b6 := ob5.ne_new hb6
  have g6 : w0.heap.size ≤ b6 := by rw [hb6]; exact S5.size
  replace ob2 := (ob2.step0 s5).step0 s6
  replace ob3 := (ob3.step0 s5).step0 s6
  replace ob4 := (ob4.step0 s5).step0 s6
  replace ob5 := ob5.step0 s6
  -- its iterator
  refine Zb <| Zb <| Z1 <| Wm rfl rfl ?_
  refine Wc rfl (Ze (vs := [.pointer (some ⟨b6, 0, none⟩)]) rfl (by kernel_rfl)) (K := fun v w7 => ∃ b7, v = .func (.func 65) #[] #[.pointer (some ⟨b7, 0, none⟩)] ∧ w6.heap.size ≤ b7 ∧ Stp [] w6 h0 w7 h0 ∧ OB w7 h0 b7 79 [.pointer (some ⟨b6, 0, none⟩)]) ?_ ?_
  · refine Z4j (n := 4) Tryz.func41 rfl Tryz.ntmps41 rfl [(0, .pointer (some ⟨b6, 0, none⟩))] rfl ?_
    refine Zb <| Z1 ?_
    refine Zhq (cs := [.pointer (some ⟨b6, 0, none⟩)]) rfl rfl rfl rfl S6.sub (fun w7 b7 hb7 s7 ob7 => ?_)
    refine Wa rfl rfl <| Z7 <| Z6 <| Zb <| Z1 <| WL.val rfl rfl rfl (ov_makeFunc (vs := [.pointer (some ⟨b7, 0, none⟩)]) rfl) <| Wa rfl rfl <| Z7 <| Z6 <| Z00 <| Zt rfl rfl ?_
    exact ⟨_, rfl, b7, rfl, by omega, s7, ob7⟩
  rintro _ w7 ⟨b7, rfl, hb7, s7, ob7⟩
  refine Z7 <| Z6 ?_
  have S7 := S6.trans0 s7
  have n67 : b6 ≠ b7 := ob6.ne_ge hb7
  have n27 : b2 ≠ b7 := ob2.ne_ge hb7
  have n37 : b3 ≠ b7 := ob3.ne_ge hb7
  have n47 : b4 ≠ b7 := ob4.ne_ge hb7
  have n57 : b5 ≠ b7 := ob5.ne_ge hb7
  replace ob2 := ob2.step0 s7
  replace ob3 := ob3.step0 s7
  replace ob4 := ob4.step0 s7
  replace ob5 := ob5.step0 s7
  replace ob6 := ob6.step0 s7
  -- the loop
  obtain ⟨q, hq, HF⟩ := Z8 HF
  refine Z0p <| WC.rangeFunc (lb := [.pointer (some ⟨b7, 0, none⟩)]) rfl (by kernel_rfl) rfl (fun a fn hat W1 hW1 => ?_)
  have sA : Stp [] w7 h0 (w7.alloc (.deferred (some []))) h0 := Zcu S7.sub _
  have sB : Stp [] w7 h0 W1 h0 := by rw [hW1]; exact sA.trans0 (Zcu sA.sub _)
  have hl1 : W1.heap[w7.heap.size + 1]? = some (.loop (Z4l fn a.tmps w7.heap.size .ready none)) := by
    rw [hW1]
    have := World.alloc_heap_new (w7.alloc (.deferred (some []))) (.loop (Z4l fn a.tmps w7.heap.size .ready none))
    rw [World.size_alloc] at this
    exact this
  have hD1 : W1.heap[w7.heap.size]? = some (.deferred (some [])) := by
    rw [hW1]; exact (Go.RowKit.Below.heap_alloc _ _ _ (by simp)).trans (World.alloc_heap_new w7 _)
  have hsz : W1.heap.size = w7.heap.size + 2 := by rw [hW1]; simp
  have z0 := S7.size
  have L : ∀ {b T : Nat} {cs : List Value}, OB w7 h0 b T cs → b < w7.heap.size := fun ob => ob.lt
  have k2 := L ob2
  have k3 := L ob3
  have k4 := L ob4
  have k5 := L ob5
  have k6 := L ob6
  have k7 := L ob7
  replace ob2 := ob2.step0 sB
  replace ob3 := ob3.step0 sB
  replace ob4 := ob4.step0 sB
  replace ob5 := ob5.step0 sB
  replace ob6 := ob6.step0 sB
  replace ob7 := ob7.step0 sB
  have hbase := S7.sub.big
  refine (Zfl k hq (l1 := w7.heap.size + 1) (J := TokJ (w7.heap.size + 1) w7.heap.size b2 b3 b4 b5 W1.heap.size (Z4l fn a.tmps w7.heap.size .ready none) (Z4l fn a.tmps w7.heap.size .done (some .ret))) (MY := [w7.heap.size + 1, b2, b3, b4, b5]) sB.sub ?_ (fun s w h M w1 h1 j st ym => j.step st ym) ?_ ob7 ob6 ⟨by omega, .slice none 0 0, hl1, hD1, ob5, RS.nil _, Own.nil _ _ _ _ _, ob2, ob3, ob4⟩ n67.symm (by simp; omega) (by simp; omega)).mono ?_
  · intro i hi
    simp only [List.mem_cons, List.not_mem_nil, or_false] at hi
    omega
  · intro s t n r w h cs hr j hge hs hR
    exact tok_round hat rfl rfl rfl rfl n23 n24 n34 n25 n35 n45 rfl (by omega) s t n r w h cs hr j hge hs hR
  rintro e w8 ⟨v, rfl, h8, s8, rfl, ob6, j⟩
  obtain ⟨_, vo, jl, jD, o5, rs, own, o2, o3, o4⟩ := j
  have S8 : Stp [] w0 h0 w8 h8 := (S7.trans0 sB).trans s8 (fun i hi => .inr (by
    simp only [List.cons_append, List.nil_append, List.mem_cons, List.not_mem_nil, or_false] at hi
    rcases hi with rfl | rfl | rfl | rfl | rfl | rfl <;> omega))
  have hb8 : h8.base ≤ w7.heap.size := by rw [S8.eqb]; exact Nat.le_trans hs0.big z0
  have lne : ∀ {b T : Nat} {cs : List Value}, OB w8 h8 b T cs → b ≠ w7.heap.size + 1 := fun ob q => by subst q; have q := ob.heap; rw [jl] at q; cases q
  have dne : ∀ {b T : Nat} {cs : List Value}, OB w8 h8 b T cs → b ≠ w7.heap.size := fun ob q => by subst q; have q := ob.heap; rw [jD] at q; cases q
  rcases hs2 : q.2.2 with _ | at_
  · -- all have come
    rw [hs2] at HF jl o3 o4
    obtain ⟨hlen, HF⟩ := Zdu HF
    obtain rfl := Option.some.inj HF
    have s9 := Ze5 (o' := .loop { Z4l fn a.tmps w7.heap.size .ready none with state := .exhausted }) S8.sub jl rfl (by omega)
    refine ⟨_, none, _, rfl, run_endLoop jl (by simp [Z4l]), ?_⟩
    have jD9 : (w8.putObj (w7.heap.size + 1) (.loop { Z4l fn a.tmps w7.heap.size .ready none with state := .exhausted })).heap[w7.heap.size]? = some (.deferred (some [])) := (World.putObj_heap_other (by omega)).trans jD
    generalize hw9 : w8.putObj (w7.heap.size + 1) (.loop { Z4l fn a.tmps w7.heap.size .ready none with state := .exhausted }) = w9 at s9 jD9
    have S9 : Stp [] w0 h0 w9 h8 := S8.trans1 s9 (.inr (by omega))
    have p2 := o2.step1 s9 (lne o2)
    have p3 := o3.step1 s9 (lne o3)
    have p4 := o4.step1 s9 (lne o4)
    have p5 := o5.step1 s9 (lne o5)
    have own9 := own.step s9 (fun b hb => by
      simp only [List.mem_cons, List.not_mem_nil, or_false] at hb; subst hb
      intro q
      rcases own with ⟨rfl, _⟩ | ⟨g, cap, cur, rfl, hbg, hg, _⟩
      · simp [Value.ownBlock] at q
      · simp [Value.ownBlock] at q; subst q; rw [jl] at hg; cases hg)
    refine Z0a <| Z6 <| Zb <| Z1 ?_
    refine WL.val rfl rfl rfl (Zc rfl t_agg_34 (OB.cell p5 (j := 0) rfl)) <| Wm rfl rfl <| WL.val rfl rfl rfl (Z95 rfl Z08) ?_
    refine WL.val rfl rfl rfl (Z38 (vs := [(0, .int .i64 7), (2, .int .i64 x1.size)]) (cs := [.int .i64 7, .string ⟨#[]⟩, .int .i64 x1.size]) rfl t_places_38 z38 rfl) ?_
    refine Z14 (us := [.agg #[.int .i64 7, .string ⟨#[]⟩, .int .i64 x1.size]]) (cs := [.int .i64 7, .string ⟨#[]⟩, .int .i64 x1.size]) rfl rfl rfl Zfj Z1o z38 rfl (Z4a rfl Zc3) rfl rfl rfl s9.sub (fun wA hA bA hbA sA' hkA hcA => ?_)
    have rsA : RS hA (.slice (some ⟨bA, 0, none⟩) 1 1) ([⟨7, ⟨#[]⟩, (x1.size : Int)⟩] : List Tok) := RS.litL _ [[.int .i64 7, .string ⟨#[]⟩, .int .i64 x1.size]] rfl rfl hcA ⟨Z62.2 rfl, trivial⟩
    have ownA := own9.step0 sA'
    have SA := S9.trans0 sA'
    have zz := SA.size
    refine Zeb (xs := q.2.1) (ys := ([⟨7, ⟨#[]⟩, (x1.size : Int)⟩] : List Tok)) rfl rfl rfl rfl Zfj Z1o z38 rfl t_bytes_38 rfl ownA (rs.mono (s9.le.trans sA'.le)) rsA hlen sA'.sub (Nat.le_trans s8.size (Nat.le_trans s9.size sA'.size)) (by rw [SA.eqb]; exact Nat.le_trans hs0.big (by omega)) (fun vB wB hB rB owB sB' _ => ?_)
    have SB : Stp [] w0 h0 wB hB := SA.trans sB' (fun i hi => .inr (by have := ownA.base_le i hi; omega))
    have row : ∀ {b T : Nat} {cs : List Value}, OB wA hA b T cs → b ∉ vo.ownBlock.toList := fun ob hm => ownA.ne_obS (rs.mono (s9.le.trans sA'.le)) ob _ hm rfl
    replace p2 := (p2.step0 sA').step sB' (row (p2.step0 sA'))
    replace p3 := (p3.step0 sA').step sB' (row (p3.step0 sA'))
    replace p4 := (p4.step0 sA').step sB' (row (p4.step0 sA'))
    refine Zo (vs := [vB]) rfl rfl rfl (RS.cellsL rB) c34 (Z5 rB.one Zx) p2 sB'.sub (by simp) (ds := [vB]) rfl (fun wC sC p2 => ?_)
    refine Zo (vs := [.int .i64 0]) rfl rfl rfl rfl Z1p (Z5 rfl Zx) (p3.step1 sC n23.symm) sC.sub (by simp) (ds := [.int .i64 0]) rfl (fun wD sD p3 => ?_)
    refine Zo (vs := [.int .i64 0]) rfl rfl rfl rfl Z5i (Z5 rfl Zx) ((p4.step1 sC n24.symm).step1 sD n34.symm) sD.sub (by simp) (ds := [.int .i64 0]) rfl (fun wE sE p4 => ?_)
    refine Z7 <| Z6 <| Z00 ?_
    have SE := ((SB.trans1 sC (.inr g2)).trans1 sD (.inr g3)).trans1 sE (.inr g4)
    have jDE : wE.heap[w7.heap.size]? = some (.deferred (some [])) := by
      have y9 := (Array.getElem?_eq_some_iff.1 jD9).1
      have y1 := sA'.size
      have y2 := sB'.size
      have y3 := sC.size
      have y4 := sD.size
      have hrow : w7.heap.size ∉ vo.ownBlock.toList := fun hm => by have := own.base_le _ hm; omega
      rw [sE.block _ (by omega) (by simp; exact (dne o4).symm), sD.block _ (by omega) (by simp; exact (dne o3).symm), sC.block _ (by omega) (by simp; exact (dne o2).symm), sB'.block _ (by omega) hrow, sA'.block _ y9 (by simp)]
      exact jD9
    have sF := Ze5 (o' := .deferred none) SE.sub jDE rfl (by rw [SE.eqb]; exact Nat.le_trans hs0.big (by omega))
    refine WQ.M1 (D := w7.heap.size) jDE (rg3 rfl (Z5k rfl (Z25 t_agg_34 (OB.cell (((p2.step1 sD n23).step1 sE n24).step1 sF (dne o2)) (j := 0) rfl))) (Z5k rfl (Z25 Z0f (OB.cell ((p3.step1 sE n34).step1 sF (dne o3)) (j := 0) rfl))) (Z5k rfl (Z25 Z5c (OB.cell (p4.step1 sF (dne o4)) (j := 0) rfl)))) ?_
    exact ⟨_, rfl, hB, SE.trans1 sF (.inr (by omega)), _, _, _, rfl, rB.mono ((((sC.le).trans sD.le).trans sE.le).trans sF.le), rfl, rfl⟩
  · -- one has not come
    rw [hs2] at HF jl o3 o4
    obtain rfl := Option.some.inj HF
    have s9 := Ze5 (o' := .loop { Z4l fn a.tmps w7.heap.size .done (some .ret) with state := .exhausted }) S8.sub jl rfl (by omega)
    refine ⟨_, some .ret, _, rfl, run_endLoop jl (by simp [Z4l]), ?_⟩
    have jD9 : (w8.putObj (w7.heap.size + 1) (.loop { Z4l fn a.tmps w7.heap.size .done (some .ret) with state := .exhausted })).heap[w7.heap.size]? = some (.deferred (some [])) := (World.putObj_heap_other (by omega)).trans jD
    generalize hw9 : w8.putObj (w7.heap.size + 1) (.loop { Z4l fn a.tmps w7.heap.size .done (some .ret) with state := .exhausted }) = w9 at s9 jD9
    have S9 : Stp [] w0 h0 w9 h8 := S8.trans1 s9 (.inr (by omega))
    have sF := Ze5 (o' := .deferred none) S9.sub jD9 rfl hb8
    refine Z00 <| Zy <| Zi ?_
    refine WQ.M1 (D := w7.heap.size) jD9 (rg3 rfl (Z5k rfl (Z25 t_agg_34 (OB.cell ((o2.step1 s9 (lne o2)).step1 sF (dne o2)) (j := 0) rfl))) (Z5k rfl (Z25 Z0f (OB.cell ((o3.step1 s9 (lne o3)).step1 sF (dne o3)) (j := 0) rfl))) (Z5k rfl (Z25 Z5c (OB.cell ((o4.step1 s9 (lne o4)).step1 sF (dne o4)) (j := 0) rfl)))) ?_
    exact ⟨_, rfl, h8, S9.trans1 sF (.inr (by omega)), _, _, _, rfl, RS.nil _, rfl, rfl⟩
def Z87 (φ : (List Tok) → Int → (List (ByteArray × Int)) → Option Bool) : Prop := ∀ ⦃xs3 : List Tok⦄ ⦃x6 : Int⦄ ⦃x8 : List (ByteArray × Int)⦄ ⦃r : Bool⦄, φ xs3 x6 x8 = some r → ∀ ⦃w0 : World⦄ ⦃h0 : Hp⦄ ⦃b1 : Nat⦄ ⦃T2 : Nat⦄ ⦃v4 : Value⦄ ⦃v9 : Value⦄, Sub h0 w0 → RS h0 v4 xs3 → RM (fnT b1) h0 v9 x8 → OB w0 h0 b1 T2 [v4, .int .i64 x6] →
  Calls Tryz.prog 58 #[.pointer (some ⟨b1, 0, none⟩), v9] w0 fun e w1 => ∃ v, e = .returned v ∧ ∃ h1, Stp [] w0 h0 w1 h1 ∧ v = .bool r
theorem Zdg (k : Nat) : Z87 (Z5b k) := by
 intro xs3 x6 x8 r HF w0 h0 b1 T2 v4 v9 hs0 rs5 rm10 ob7
 have S0 : Stp [] w0 h0 w0 h0 := Stp.refl hs0 _
 have lt11 : b1 < w0.heap.size := OB.lt ob7
 refine Z4j (n := 22) Tryz.func58 rfl Tryz.ntmps58 rfl [(0, pt b1 0), (1, v9)] rfl <| Zb <| Z1 <| Wa rfl rfl <| Z7 <| Z6 <| Zb <| Z1 <| Wm rfl rfl <| Wm rfl rfl ?_
 obtain ⟨r12, hr13, HF⟩ := Z8 HF
 refine Wc rfl (Ze (vs := [pt b1 0]) rfl Z7s) (Z1b _ hr13 S0.sub rs5 ob7) ?_
 rintro _ w15 ⟨h16, s17, ⟨cs18, rfl, r19⟩⟩
 have S20 := S0.trans0 s17
 obtain rfl := Z62.1 r19
 refine Wv rfl (Za7 rfl t_fld_38_1 Z2r rfl) ?_
 obtain ⟨r21, hr22, HF⟩ := Z8 HF
 replace hr22 := Option.some.inj hr22
 refine Wv rfl (ov_lookupS2 (evl := (fnT b1)) (z := (0 : Int)) rfl rfl Zcz Z08 t_zero_103 (rm10.mono (s17.le)) S20.sub hr22) <| Wm rfl rfl <| Wv rfl (Z0c rfl rfl) <| Wv rfl (Z0c rfl rfl) <| Wa rfl rfl <| Wa rfl rfl <| Z7 <| Z6 <| Zb <| Z1 <| Wm rfl rfl <| Wm rfl rfl <| Z3g 16 HF rfl (fun HF => ?_) (fun HF => ?_)
 ·refine Wm rfl rfl ?_
  have ob24 := (ob7.step0 s17)
  obtain ⟨r25, hr26, HF⟩ := Z8 HF
  refine Wc rfl (Ze (vs := [pt b1 0]) rfl Z7s) (Z1b _ hr26 S20.sub (rs5.mono (s17.le)) ob24) ?_
  rintro _ w28 ⟨h29, s30, ⟨cs31, rfl, r32⟩⟩
  have S33 := S20.trans0 s30
  obtain rfl := Z62.1 r32
  refine Wv rfl (Za7 rfl Zd6 Z0f rfl) <| Wv rfl (Z4n rfl rfl) <| Wv rfl (Zh rfl rfl) <| Wa rfl rfl <| Z7 <| Z6 <| Z00 <| Zt rfl rfl ?_
  obtain rfl := Option.some.inj HF
  exact ⟨_, rfl, h29, S33, rfl⟩
 refine Wp rfl <| Wp rfl <| Wp rfl <| Wp rfl <| Wv rfl (Zg rfl rfl) <| Wa rfl rfl <| Z7 <| Z6 <| Z00 <| Zt rfl rfl ?_
 obtain rfl := Option.some.inj HF
 exact ⟨_, rfl, h16, S20, rfl⟩
theorem Zct (k : Nat) : Z87 (Z5b k) := Zdg k
def C_parse_is (φ : Tok → ByteArray → Option Bool) : Prop := ∀ ⦃x1 : Tok⦄ ⦃x4 : ByteArray⦄ ⦃r : Bool⦄, φ x1 x4 = some r → ∀ ⦃w0 : World⦄ ⦃h0 : Hp⦄ ⦃cs2 : List Value⦄, Sub h0 w0 → Rp.R h0 x1 cs2 →
  Calls Tryz.prog 186 #[.agg cs2.toArray, .string x4] w0 fun e w1 => ∃ v, e = .returned v ∧ ∃ h1, Stp [] w0 h0 w1 h1 ∧ v = .bool r
theorem s_parse_is (k : Nat) : C_parse_is (F_parse_is k) := by
 intro x1 x4 r HF w0 h0 cs2 hs0 r3
 have S0 : Stp [] w0 h0 w0 h0 := Stp.refl hs0 _
 refine Z4j (n := 19) Tryz.func186 rfl Tryz.ntmps186 rfl [(0, .agg cs2.toArray), (1, .string x4)] rfl <| Zb <| Z1 ?_
 obtain rfl := Z62.1 r3
 refine Zhq (cs := [vi x1.kind, .string x1.text, vi x1.pos]) rfl rfl rfl rfl S0.sub (fun w5 b6 hb7 s8 ob9 => ?_)
 have g10 : w0.heap.size ≤ b6 := by rw [hb7]; exact S0.size
 have S11 := S0.trans0 s8
 refine Wa rfl rfl <| Z7 <| Z6 <| Zb <| Z1 <| Wv rfl (Z2 rfl Zda) <| Wv rfl (Zc rfl Z0f (OB.cell ob9 (j := 0) rfl)) <| Wv rfl (Z4n rfl rfl) <| Wm rfl rfl <| Z3g 8 HF rfl (fun HF => ?_) (fun HF => ?_)
 ·refine Wp rfl <| Wp rfl <| Wp rfl <| Wv rfl (Zh rfl rfl) <| Wm rfl rfl <| Wv rfl (Z2 rfl Zgi) <| Wv rfl (Zc rfl Z2r (OB.cell ob9 (j := 1) rfl)) <| Wm rfl rfl <| Wv rfl (Z0d rfl rfl) <| Wv rfl (Zh rfl rfl) <| Wa rfl rfl <| Z7 <| Z6 <| Z00 <| Zt rfl rfl ?_
  obtain rfl := Option.some.inj HF
  exact ⟨_, rfl, h0, S11, rfl⟩
 refine Wv rfl (Z2 rfl Zda) <| Wv rfl (Zc rfl Z0f (OB.cell ob9 (j := 0) rfl)) <| Wv rfl (Z4n rfl rfl) <| Wv rfl (Zg rfl rfl) <| Wm rfl rfl <| Z3g 13 HF rfl (fun HF => ?_) (fun HF => ?_)
 ·refine Wv rfl (Z2 rfl Zgi) <| Wv rfl (Zc rfl Z2r (OB.cell ob9 (j := 1) rfl)) <| Wm rfl rfl <| Wv rfl (Z0d rfl rfl) <| Wv rfl (Zh rfl rfl) <| Wa rfl rfl <| Z7 <| Z6 <| Z00 <| Zt rfl rfl ?_
  obtain rfl := Option.some.inj HF
  exact ⟨_, rfl, h0, S11, rfl⟩
 refine Wp rfl <| Wp rfl <| Wp rfl <| Wp rfl <| Wv rfl (Zg rfl rfl) <| Wa rfl rfl <| Z7 <| Z6 <| Z00 <| Zt rfl rfl ?_
 obtain rfl := Option.some.inj HF
 exact ⟨_, rfl, h0, S11, rfl⟩
theorem ok_parse_is (k : Nat) : C_parse_is (F_parse_is k) := s_parse_is k
def Zh1 (φ : (List Tok) → Int → ByteArray → Option Bool) : Prop := ∀ ⦃xs3 : List Tok⦄ ⦃x6 : Int⦄ ⦃x8 : ByteArray⦄ ⦃r : Bool⦄, φ xs3 x6 x8 = some r → ∀ ⦃w0 : World⦄ ⦃h0 : Hp⦄ ⦃b1 : Nat⦄ ⦃T2 : Nat⦄ ⦃v4 : Value⦄, Sub h0 w0 → RS h0 v4 xs3 → OB w0 h0 b1 T2 [v4, .int .i64 x6] →
  Calls Tryz.prog 157 #[.pointer (some ⟨b1, 0, none⟩), .string x8] w0 fun e w1 => ∃ v, e = .returned v ∧ ∃ h1, Stp [] w0 h0 w1 h1 ∧ v = .bool r
theorem s_parse_Parser_Is (k : Nat) : Zh1 (Z3t k) := by
 intro xs3 x6 x8 r HF w0 h0 b1 T2 v4 hs0 rs5 ob7
 have S0 : Stp [] w0 h0 w0 h0 := Stp.refl hs0 _
 have lt9 : b1 < w0.heap.size := OB.lt ob7
 refine Z4j (n := 9) Tryz.func157 rfl Tryz.ntmps157 rfl [(0, pt b1 0), (1, .string x8)] rfl <| Zb <| Z1 <| Wa rfl rfl <| Z7 <| Z6 <| Zb <| Z1 <| Wm rfl rfl ?_
 obtain ⟨r10, hr11, HF⟩ := Z8 HF
 refine Wc rfl (Ze (vs := [pt b1 0]) rfl Z7s) (Z1b _ hr11 S0.sub rs5 ob7) ?_
 rintro _ w13 ⟨h14, s15, ⟨cs16, rfl, r17⟩⟩
 have S18 := S0.trans0 s15
 refine Wm rfl rfl ?_
 obtain ⟨r19, hr20, HF⟩ := Z8 HF
 refine Wc rfl (Ze (vs := [.agg cs16.toArray, .string x8]) rfl t_ent_186) (ok_parse_is _ hr20 S18.sub r17) ?_
 rintro _ w22 ⟨h23, s24, rfl⟩
 have S25 := S18.trans0 s24
 refine Wa rfl rfl <| Z7 <| Z6 <| Z00 <| Zt rfl rfl ?_
 obtain rfl := Option.some.inj HF
 exact ⟨_, rfl, h23, S25, rfl⟩
theorem Z55 (k : Nat) : Zh1 (Z3t k) := s_parse_Parser_Is k
def Zes (φ : (List Tok) → Int → ByteArray → Option (Bool × Int)) : Prop := ∀ ⦃xs3 : List Tok⦄ ⦃x6 : Int⦄ ⦃x8 : ByteArray⦄ ⦃r : Bool × Int⦄, φ xs3 x6 x8 = some r → ∀ ⦃w0 : World⦄ ⦃h0 : Hp⦄ ⦃b1 : Nat⦄ ⦃T2 : Nat⦄ ⦃v4 : Value⦄, Sub h0 w0 → RS h0 v4 xs3 → OB w0 h0 b1 T2 [v4, .int .i64 x6] →
  Calls Tryz.prog 109 #[.pointer (some ⟨b1, 0, none⟩), .string x8] w0 fun e w1 => ∃ v, e = .returned v ∧ ∃ h1, Stp [b1] w0 h0 w1 h1 ∧ v = .bool r.1 ∧ (OB w1 h1 b1 T2 [v4, .int .i64 r.2])
theorem s_parse_Parser_Skip (k : Nat) : Zes (Z0l k) := by
 intro xs3 x6 x8 r HF w0 h0 b1 T2 v4 hs0 rs5 ob7
 have S0 : Stp [b1] w0 h0 w0 h0 := Stp.refl hs0 _
 have lt9 : b1 < w0.heap.size := OB.lt ob7
 refine Z4j (n := 16) Tryz.func109 rfl Tryz.ntmps109 rfl [(0, pt b1 0), (1, .string x8)] rfl <| Zb <| Z1 <| Wa rfl rfl <| Z7 <| Z6 <| Z09 (fun E w20 => ∃ (h19 : Hp), Zds k x6 = some r ∧ E = [(0, pt b1 0)] ∧ Stp [b1] w0 h0 w20 h19 ∧ Hle h0 h19 ∧ OB w20 h19 b1 T2 [v4, vi x6]) ?_ ?_
 ·rintro E w20 ⟨h19, HF, rfl, S22, le21, ob23⟩
  refine Zb <| Z1 <| Wm rfl rfl <| Wv rfl (Zs rfl) <| Wv rfl (Z2 rfl Z61) <| Wv rfl (Zc rfl Z0f (OB.cell ob23 (j := 1) rfl)) <| Wv rfl (Z3n rfl rfl) <| Wv rfl (Zs rfl) <| Wv rfl (Z2 rfl Z61) <| Zo (vs := [vi (IntKind.i64.wrap (x6 + 1))]) rfl rfl rfl rfl Z1p (Z5 rfl Zx) ob23 S22.sub (by simp) (ds := [v4, vi (IntKind.i64.wrap (x6 + 1))]) rfl (fun w24 s25 ob26 => ?_)
  have S27 := S22.trans1 s25 (.inl (by simp))
  refine Z7 <| Z6 <| Zb <| Z1 <| Wa rfl rfl <| Z7 <| Z6 <| Z00 <| Zt rfl rfl ?_
  obtain rfl := Option.some.inj HF
  exact ⟨_, rfl, h19, S27, rfl, ob26⟩
 intro J28
 refine Zb <| Z1 <| Wm rfl rfl <| Wm rfl rfl ?_
 obtain ⟨r10, hr11, HF⟩ := Z8 HF
 refine Wc rfl (Ze (vs := [pt b1 0, .string x8]) rfl t_ent_157) (Z55 _ hr11 S0.sub rs5 ob7) ?_
 rintro _ w13 ⟨h14, s15, rfl⟩
 have S16 := S0.trans0 s15
 refine Wv rfl (Z3c rfl) <| Z7 <| Z6 <| Z17 HF rfl (fun HF => ?_) (fun HF => ?_)
 ·refine Zb <| Z1 <| Wa rfl rfl <| Z7 <| Z6 <| Z00 <| Zi ?_
  have ob18 := (ob7.step0 s15)
  refine Zt rfl rfl ?_
  obtain rfl := Option.some.inj HF
  exact ⟨_, rfl, h14, S16, rfl, ob18⟩
 refine Zm ?_
 have ob29 := (ob7.step0 s15)
 refine Z0g [0] _ rfl ?_
 exact J28 ⟨h14, HF, rfl, S16, s15.le, ob29⟩
theorem Z0n (k : Nat) : Zes (Z0l k) := s_parse_Parser_Skip k
def Zfh (φ : (List Tok) → Int → Option (Except (Int × Int × Int) (Int × Int))) : Prop := ∀ ⦃xs3 : List Tok⦄ ⦃x6 : Int⦄ ⦃r : Except (Int × Int × Int) (Int × Int)⦄, φ xs3 x6 = some r → ∀ ⦃w0 : World⦄ ⦃h0 : Hp⦄ ⦃b1 : Nat⦄ ⦃T2 : Nat⦄ ⦃v4 : Value⦄, Sub h0 w0 → RS h0 v4 xs3 → OB w0 h0 b1 T2 [v4, .int .i64 x6] →
  Calls Tryz.prog 159 #[.pointer (some ⟨b1, 0, none⟩)] w0 fun e w1 => match r with | .ok r => ∃ v, e = .returned v ∧ ∃ h1, Stp [b1] w0 h0 w1 h1 ∧ v = .int .i64 r.1 ∧ (OB w1 h1 b1 T2 [v4, .int .i64 r.2]) | .error t => ∃ ch, e = .panicked ch ∧ Z8l 138 t.1 t.2.1 ch ∧ ∃ h1, Stp [b1] w0 h0 w1 h1 ∧ (OB w1 h1 b1 T2 [v4, .int .i64 t.2.2])
theorem s_parse_Parser_Int (k : Nat) : Zfh (Z53 k) := by
 intro xs3 x6 r HF w0 h0 b1 T2 v4 hs0 rs5 ob7
 have S0 : Stp [b1] w0 h0 w0 h0 := Stp.refl hs0 _
 have lt8 : b1 < w0.heap.size := OB.lt ob7
 refine Z4j (n := 12) Tryz.func159 rfl Tryz.ntmps159 rfl [(0, pt b1 0)] rfl <| Zb <| Z1 <| Wa rfl rfl <| Z7 <| Z6 <| Zb <| Z1 <| Wm rfl rfl ?_
 obtain ⟨r9, hr10, HF⟩ := Z8 HF
 rcases r9 with t11 | r12
 ·obtain rfl := Z01 HF
  refine Z0i rfl (Ze (vs := [pt b1 0, vi 2]) rfl t_ent_99) (Z2w _ hr10 S0.sub rs5 ob7) ?_
  rintro ch18 w19 ⟨ht20, h21, s22, ob17⟩
  refine Zd <| Zp ?_
  have S23 := S0.trans s22 (Zn (.inl (by simp)) Z04)
  exact ⟨_, rfl, ht20, h21, S23, ob17⟩
 replace HF := Z0j HF
 refine Wc rfl (Ze (vs := [pt b1 0, vi 2]) rfl t_ent_99) (Z2w _ hr10 S0.sub rs5 ob7) ?_
 rintro _ w14 ⟨h15, s16, rfl, ob24⟩
 have S25 := S0.trans s16 (Zn (.inl (by simp)) Z04)
 obtain ⟨r26, hr27, HF⟩ := Z8 HF
 refine Wc rfl (Ze (vs := [.string r12.1]) rfl t_ent_150) (Zfa _ hr27 S25.sub) ?_
 rintro _ w29 ⟨h30, s31, _, v32, rfl, rfl, ev33⟩
 have S34 := S25.trans0 s31
 refine Wm rfl rfl <| Wv rfl (Z0c rfl rfl) <| Wv rfl (Z0c rfl rfl) <| Wa rfl rfl <| Wa rfl rfl <| Z7 <| Z6 <| Zb <| Z1 <| Wm rfl rfl <| Wa rfl rfl <| Z7 <| Z6 <| Z00 ?_
 have ob35 := (ob24.step0 s31)
 refine Zt rfl rfl ?_
 obtain rfl := Option.some.inj HF
 exact ⟨_, rfl, h30, S34, rfl, ob35⟩
theorem Z36 (k : Nat) : Zfh (Z53 k) := s_parse_Parser_Int k
def Zdz (φ : (List Tok) → Int → Option (Except (Int × Int × Int) (Int × Int))) : Prop := ∀ ⦃xs3 : List Tok⦄ ⦃x6 : Int⦄ ⦃r : Except (Int × Int × Int) (Int × Int)⦄, φ xs3 x6 = some r → ∀ ⦃w0 : World⦄ ⦃h0 : Hp⦄ ⦃b1 : Nat⦄ ⦃T2 : Nat⦄ ⦃v4 : Value⦄, Sub h0 w0 → RS h0 v4 xs3 → OB w0 h0 b1 T2 [v4, .int .i64 x6] →
  Calls Tryz.prog 158 #[.pointer (some ⟨b1, 0, none⟩)] w0 fun e w1 => match r with | .ok r => ∃ v, e = .returned v ∧ ∃ h1, Stp [b1] w0 h0 w1 h1 ∧ v = .int .i64 r.1 ∧ (OB w1 h1 b1 T2 [v4, .int .i64 r.2]) | .error t => ∃ ch, e = .panicked ch ∧ Z8l 138 t.1 t.2.1 ch ∧ ∃ h1, Stp [b1] w0 h0 w1 h1 ∧ (OB w1 h1 b1 T2 [v4, .int .i64 t.2.2])
theorem s_parse_Parser_Label (k : Nat) : Zdz (Z74 k) := by
 intro xs3 x6 r HF w0 h0 b1 T2 v4 hs0 rs5 ob7
 have S0 : Stp [b1] w0 h0 w0 h0 := Stp.refl hs0 _
 have lt8 : b1 < w0.heap.size := OB.lt ob7
 refine Z4j (n := 10) Tryz.func158 rfl Tryz.ntmps158 rfl [(0, pt b1 0)] rfl <| Zb <| Z1 <| Wa rfl rfl <| Z7 <| Z6 <| Z09 (fun E w36 => ∃ (h35 : Hp) (x39 : Int), Zc7 k xs3 x39 = some r ∧ E = [(0, pt b1 0)] ∧ Stp [b1] w0 h0 w36 h35 ∧ Hle h0 h35 ∧ OB w36 h35 b1 T2 [v4, vi x39]) ?_ ?_
 ·rintro E w36 ⟨h35, x39, HF, rfl, S38, le37, ob40⟩
  refine Zb <| Z1 <| Wm rfl rfl ?_
  obtain ⟨r41, hr42, HF⟩ := Z8 HF
  rcases r41 with t43 | r44
  ·obtain rfl := Z01 HF
   refine Z0i rfl (Ze (vs := [pt b1 0]) rfl Zez) (Z36 _ hr42 S38.sub (rs5.mono (le37)) ob40) ?_
   rintro ch50 w51 ⟨ht52, h53, s54, ob49⟩
   refine Zd <| Zp ?_
   have S55 := S38.trans s54 (Zn (.inl (by simp)) Z04)
   exact ⟨_, rfl, ht52, h53, S55, ob49⟩
  replace HF := Z0j HF
  refine Wc rfl (Ze (vs := [pt b1 0]) rfl Zez) (Z36 _ hr42 S38.sub (rs5.mono (le37)) ob40) ?_
  rintro _ w46 ⟨h47, s48, rfl, ob56⟩
  have S57 := S38.trans s48 (Zn (.inl (by simp)) Z04)
  refine Wa rfl rfl <| Z7 <| Z6 <| Z00 <| Zt rfl rfl ?_
  obtain rfl := Option.some.inj HF
  exact ⟨_, rfl, h47, S57, rfl, ob56⟩
 intro J58
 refine Zb <| Z1 <| Wm rfl rfl ?_
 obtain ⟨r9, hr10, HF⟩ := Z8 HF
 refine Wc rfl (Ze (vs := [pt b1 0, .string b'30]) rfl Z4r) (Z0n _ hr10 S0.sub rs5 ob7) ?_
 rintro _ w12 ⟨h13, s14, rfl, ob15⟩
 have S16 := S0.trans s14 (Zn (.inl (by simp)) Z04)
 refine Z7 <| Z6 <| Z17 HF rfl (fun HF => ?_) (fun HF => ?_)
 ·refine Zb <| Z1 <| Wm rfl rfl ?_
  obtain ⟨r18, hr19, HF⟩ := Z8 HF
  rcases r18 with t20 | r21
  ·obtain rfl := Z01 HF
   refine Z0i rfl (Ze (vs := [pt b1 0]) rfl Zez) (Z36 _ hr19 S16.sub (rs5.mono (s14.le)) ob15) ?_
   rintro ch27 w28 ⟨ht29, h30, s31, ob26⟩
   refine Zd <| Zd <| Zp ?_
   have S32 := S16.trans s31 (Zn (.inl (by simp)) Z04)
   exact ⟨_, rfl, ht29, h30, S32, ob26⟩
  replace HF := Z0j HF
  refine Wc rfl (Ze (vs := [pt b1 0]) rfl Zez) (Z36 _ hr19 S16.sub (rs5.mono (s14.le)) ob15) ?_
  rintro _ w23 ⟨h24, s25, rfl, ob33⟩
  have S34 := S16.trans s25 (Zn (.inl (by simp)) Z04)
  refine Wv rfl (ov_neg rfl) <| Wa rfl rfl <| Z7 <| Z6 <| Z00 <| Zi <| Zt rfl rfl ?_
  obtain rfl := Option.some.inj HF
  exact ⟨_, rfl, h24, S34, rfl, ob33⟩
 refine Zm <| Z0g [0] _ rfl ?_
 exact J58 ⟨h13, r9.2, HF, rfl, S16, s14.le, ob15⟩
theorem Z6g (k : Nat) : Zdz (Z74 k) := s_parse_Parser_Label k
def Zei (φ : (List Tok) → Int → Option (Except (Int × Int × Int) (Int × Int))) : Prop := ∀ ⦃xs3 : List Tok⦄ ⦃x6 : Int⦄ ⦃r : Except (Int × Int × Int) (Int × Int)⦄, φ xs3 x6 = some r → ∀ ⦃w0 : World⦄ ⦃h0 : Hp⦄ ⦃b1 : Nat⦄ ⦃T2 : Nat⦄ ⦃v4 : Value⦄, Sub h0 w0 → RS h0 v4 xs3 → OB w0 h0 b1 T2 [v4, .int .i64 x6] →
  Calls Tryz.prog 173 #[.pointer (some ⟨b1, 0, none⟩)] w0 fun e w1 => match r with | .ok r => ∃ v, e = .returned v ∧ ∃ h1, Stp [b1] w0 h0 w1 h1 ∧ v = .int .i64 r.1 ∧ (OB w1 h1 b1 T2 [v4, .int .i64 r.2]) | .error t => ∃ ch, e = .panicked ch ∧ Z8l 138 t.1 t.2.1 ch ∧ ∃ h1, Stp [b1] w0 h0 w1 h1 ∧ (OB w1 h1 b1 T2 [v4, .int .i64 t.2.2])
theorem s_parse_Parser_Time (k : Nat) : Zei (Za5 k) := by
 intro xs3 x6 r HF w0 h0 b1 T2 v4 hs0 rs5 ob7
 have S0 : Stp [b1] w0 h0 w0 h0 := Stp.refl hs0 _
 have lt8 : b1 < w0.heap.size := OB.lt ob7
 refine Z4j (n := 13) Tryz.func173 rfl Tryz.ntmps173 rfl [(0, pt b1 0)] rfl <| Zb <| Z1 <| Wa rfl rfl <| Z7 <| Z6 <| Zb <| Z1 <| Wm rfl rfl ?_
 obtain ⟨r9, hr10, HF⟩ := Z8 HF
 rcases r9 with t11 | r12
 ·obtain rfl := Z01 HF
  refine Z0i rfl (Ze (vs := [pt b1 0, vi 3]) rfl t_ent_99) (Z2w _ hr10 S0.sub rs5 ob7) ?_
  rintro ch18 w19 ⟨ht20, h21, s22, ob17⟩
  refine Zd <| Zp ?_
  have S23 := S0.trans s22 (Zn (.inl (by simp)) Z04)
  exact ⟨_, rfl, ht20, h21, S23, ob17⟩
 replace HF := Z0j HF
 refine Wc rfl (Ze (vs := [pt b1 0, vi 3]) rfl t_ent_99) (Z2w _ hr10 S0.sub rs5 ob7) ?_
 rintro _ w14 ⟨h15, s16, rfl, ob24⟩
 have S25 := S0.trans s16 (Zn (.inl (by simp)) Z04)
 obtain ⟨t26, ht27, HF⟩ := Z8 HF
 refine Wv rfl (ov_sliceSL rfl rfl Z08 ht27) ?_
 obtain ⟨r28, hr29, HF⟩ := Z8 HF
 refine Wc rfl (Ze (vs := [.string t26]) rfl t_ent_150) (Zfa _ hr29 S25.sub) ?_
 rintro _ w31 ⟨h32, s33, _, v34, rfl, rfl, ev35⟩
 have S36 := S25.trans0 s33
 refine Wm rfl rfl <| Wv rfl (Z0c rfl rfl) <| Wv rfl (Z0c rfl rfl) <| Wa rfl rfl <| Wa rfl rfl <| Z7 <| Z6 <| Zb <| Z1 <| Wm rfl rfl <| Wa rfl rfl <| Z7 <| Z6 <| Z00 ?_
 have ob37 := (ob24.step0 s33)
 refine Zt rfl rfl ?_
 obtain rfl := Option.some.inj HF
 exact ⟨_, rfl, h32, S36, rfl, ob37⟩
theorem Zdo (k : Nat) : Zei (Za5 k) := s_parse_Parser_Time k
def Zex (φ : (List Tok) → Int → Option (Except (Int × Int × Int) (ByteArray × Int))) : Prop := ∀ ⦃xs3 : List Tok⦄ ⦃x6 : Int⦄ ⦃r : Except (Int × Int × Int) (ByteArray × Int)⦄, φ xs3 x6 = some r → ∀ ⦃w0 : World⦄ ⦃h0 : Hp⦄ ⦃b1 : Nat⦄ ⦃T2 : Nat⦄ ⦃v4 : Value⦄, Sub h0 w0 → RS h0 v4 xs3 → OB w0 h0 b1 T2 [v4, .int .i64 x6] →
  Calls Tryz.prog 108 #[.pointer (some ⟨b1, 0, none⟩)] w0 fun e w1 => match r with | .ok r => ∃ v, e = .returned v ∧ ∃ h1, Stp [b1] w0 h0 w1 h1 ∧ v = .string r.1 ∧ (OB w1 h1 b1 T2 [v4, .int .i64 r.2]) | .error t => ∃ ch, e = .panicked ch ∧ Z8l 138 t.1 t.2.1 ch ∧ ∃ h1, Stp [b1] w0 h0 w1 h1 ∧ (OB w1 h1 b1 T2 [v4, .int .i64 t.2.2])
theorem s_parse_Parser_Name (k : Nat) : Zex (Z3j k) := by
 intro xs3 x6 r HF w0 h0 b1 T2 v4 hs0 rs5 ob7
 have S0 : Stp [b1] w0 h0 w0 h0 := Stp.refl hs0 _
 have lt8 : b1 < w0.heap.size := OB.lt ob7
 refine Z4j (n := 5) Tryz.func108 rfl Tryz.ntmps108 rfl [(0, pt b1 0)] rfl <| Zb <| Z1 <| Wa rfl rfl <| Z7 <| Z6 <| Zb <| Z1 <| Wm rfl rfl ?_
 obtain ⟨r9, hr10, HF⟩ := Z8 HF
 rcases r9 with t11 | r12
 ·obtain rfl := Z01 HF
  refine Z0i rfl (Ze (vs := [pt b1 0, vi 1]) rfl t_ent_99) (Z2w _ hr10 S0.sub rs5 ob7) ?_
  rintro ch18 w19 ⟨ht20, h21, s22, ob17⟩
  refine Zd <| Zp ?_
  have S23 := S0.trans s22 (Zn (.inl (by simp)) Z04)
  exact ⟨_, rfl, ht20, h21, S23, ob17⟩
 replace HF := Z0j HF
 refine Wc rfl (Ze (vs := [pt b1 0, vi 1]) rfl t_ent_99) (Z2w _ hr10 S0.sub rs5 ob7) ?_
 rintro _ w14 ⟨h15, s16, rfl, ob24⟩
 have S25 := S0.trans s16 (Zn (.inl (by simp)) Z04)
 refine Wa rfl rfl <| Z7 <| Z6 <| Z00 <| Zt rfl rfl ?_
 obtain rfl := Option.some.inj HF
 exact ⟨_, rfl, h15, S25, rfl, ob24⟩
theorem Z24 (k : Nat) : Zex (Z3j k) := s_parse_Parser_Name k
def Zem (φ : (List Tok) → Int → ByteArray → Option (Except (Int × Int × Int) Int)) : Prop := ∀ ⦃xs3 : List Tok⦄ ⦃x6 : Int⦄ ⦃x8 : ByteArray⦄ ⦃r : Except (Int × Int × Int) Int⦄, φ xs3 x6 x8 = some r → ∀ ⦃w0 : World⦄ ⦃h0 : Hp⦄ ⦃b1 : Nat⦄ ⦃T2 : Nat⦄ ⦃v4 : Value⦄, Sub h0 w0 → RS h0 v4 xs3 → OB w0 h0 b1 T2 [v4, .int .i64 x6] →
  Calls Tryz.prog 61 #[.pointer (some ⟨b1, 0, none⟩), .string x8] w0 fun e w1 => match r with | .ok r => ∃ v, e = .returned v ∧ ∃ h1, Stp [b1] w0 h0 w1 h1 ∧ v = .tuple #[] ∧ (OB w1 h1 b1 T2 [v4, .int .i64 r]) | .error t => ∃ ch, e = .panicked ch ∧ Z8l 138 t.1 t.2.1 ch ∧ ∃ h1, Stp [b1] w0 h0 w1 h1 ∧ (OB w1 h1 b1 T2 [v4, .int .i64 t.2.2])
theorem s_parse_Parser_Want (k : Nat) : Zem (Z0b k) := by
 intro xs3 x6 x8 r HF w0 h0 b1 T2 v4 hs0 rs5 ob7
 have S0 : Stp [b1] w0 h0 w0 h0 := Stp.refl hs0 _
 have lt9 : b1 < w0.heap.size := OB.lt ob7
 refine Z4j (n := 10) Tryz.func61 rfl Tryz.ntmps61 rfl [(0, pt b1 0), (1, .string x8)] rfl <| Zb <| Z1 <| Wm rfl rfl <| Wm rfl rfl ?_
 obtain ⟨r10, hr11, HF⟩ := Z8 HF
 refine Wc rfl (Ze (vs := [pt b1 0, .string x8]) rfl Z4r) (Z0n _ hr11 S0.sub rs5 ob7) ?_
 rintro _ w13 ⟨h14, s15, rfl, ob16⟩
 have S17 := S0.trans s15 (Zn (.inl (by simp)) Z04)
 refine Wv rfl (Z3c rfl) <| Z7 <| Z6 <| Z17 HF rfl (fun HF => ?_) (fun HF => ?_)
 ·refine Z1 <| Wm rfl rfl ?_
  obtain ⟨r19, hr20, HF⟩ := Z8 HF
  rcases r19 with t21 | r22
  ·obtain rfl := Z01 HF
   refine Z0i rfl (Ze (vs := [pt b1 0]) rfl Z98) (Z1m _ hr20 S17.sub (rs5.mono (s15.le)) ob16) ?_
   rintro ch27 w28 ⟨ht29, h30, s31⟩
   refine Zp ?_
   have S32 := S17.trans0 s31
   have ob33 := (ob16.step0 s31)
   exact ⟨_, rfl, ht29, h30, S32, ob33⟩
  replace HF := Z0j HF
  refine Wc rfl (Ze (vs := [pt b1 0]) rfl Z98) (Z1m _ hr20 S17.sub (rs5.mono (s15.le)) ob16) ?_
  rintro v23 w24 ⟨h25, s26, rfl⟩
  have S34 := S17.trans0 s26
  refine Z7 ?_
  have ob35 := (ob16.step0 s26)
  refine Zb0 rfl ?_
  obtain rfl := Option.some.inj HF
  exact ⟨_, rfl, h25, S34, rfl, ob35⟩
 refine Zm <| Zb0 rfl ?_
 obtain rfl := Option.some.inj HF
 exact ⟨_, rfl, h14, S17, rfl, ob16⟩
theorem Zj (k : Nat) : Zem (Z0b k) := s_parse_Parser_Want k
def C_parse_levels (φ : Option (List (List (ByteArray × Int)))) : Prop := ∀ ⦃r : List (List (ByteArray × Int))⦄, φ  = some r → ∀ ⦃w0 : World⦄ ⦃h0 : Hp⦄, Sub h0 w0 →
  Calls Tryz.prog 79 #[] w0 fun e w1 => ∃ v, e = .returned v ∧ ∃ h1, Stp [] w0 h0 w1 h1 ∧ RS h1 v r
theorem s_parse_levels (k : Nat) : C_parse_levels (Zfz k) := by
 intro  r HF w0 h0  hs0 
 have S0 : Stp [] w0 h0 w0 h0 := Stp.refl hs0 _
 refine Z4j (n := 16) Tryz.func79 rfl Tryz.ntmps79 rfl [] rfl <| Zb <| Z1 <| Wa rfl rfl <| Z7 <| Z6 <| Zb <| Z1 <| Zbu rfl rfl S0.sub (fun w1 b2 hb3 s4 ob5 => ?_)
 have g6 : w0.heap.size ≤ b2 := by rw [hb3]; exact S0.size
 have S7 := S0.trans0 s4
 refine Z47 rfl rfl rfl rfl Z72 Z08 (.inl rfl) ob5 S7.sub rfl (fun w8 s9 ob10 => ?_)
 have S11 := S7.trans1 s9 (.inr g6)
 refine Wm rfl rfl <| Zbu rfl rfl S11.sub (fun w12 b13 hb14 s15 ob16 => ?_)
 have ne17 : b2 ≠ b13 := ob10.ne_new hb14
 have g18 : w0.heap.size ≤ b13 := by rw [hb14]; exact S11.size
 have S19 := S11.trans0 s15
 refine Z47 rfl rfl rfl rfl Z72 Z08 (.inl rfl) ob16 S19.sub rfl (fun w20 s21 ob22 => ?_)
 have S23 := S19.trans1 s21 (.inr g18)
 refine Wm rfl rfl ?_
 have ob24 := ((ob10.step0 s15).step1 s21 ne17)
 refine Zbu rfl rfl S23.sub (fun w25 b26 hb27 s28 ob29 => ?_)
 have ne30 : b2 ≠ b26 := ob24.ne_new hb27
 have ne31 : b13 ≠ b26 := ob22.ne_new hb27
 have g32 : w0.heap.size ≤ b26 := by rw [hb27]; exact S23.size
 have S33 := S23.trans0 s28
 refine Z47 rfl rfl rfl rfl Z72 Z08 (.inl rfl) ob29 S33.sub rfl (fun w34 s35 ob36 => ?_)
 have S37 := S33.trans1 s35 (.inr g32)
 refine Wm rfl rfl ?_
 have ob38 := ((ob24.step0 s28).step1 s35 ne30)
 have ob39 := ((ob22.step0 s28).step1 s35 ne31)
 refine Zbu rfl rfl S37.sub (fun w40 b41 hb42 s43 ob44 => ?_)
 have ne45 : b2 ≠ b41 := ob38.ne_new hb42
 have ne46 : b13 ≠ b41 := ob39.ne_new hb42
 have ne47 : b26 ≠ b41 := ob36.ne_new hb42
 have g48 : w0.heap.size ≤ b41 := by rw [hb42]; exact S37.size
 have S49 := S37.trans0 s43
 refine Z47 rfl rfl rfl rfl Z72 Z08 (.inl rfl) ob44 S49.sub rfl (fun w50 s51 ob52 => ?_)
 have S53 := S49.trans1 s51 (.inr g48)
 refine Z47 rfl rfl rfl rfl Z72 Z08 (.inl rfl) ob52 S53.sub rfl (fun w54 s55 ob56 => ?_)
 have S57 := S53.trans1 s55 (.inr g48)
 refine Wm rfl rfl ?_
 have ob58 := (((ob38.step0 s43).step1 s51 ne45).step1 s55 ne45)
 have ob59 := (((ob39.step0 s43).step1 s51 ne46).step1 s55 ne46)
 have ob60 := (((ob36.step0 s43).step1 s51 ne47).step1 s55 ne47)
 refine Zbu rfl rfl S57.sub (fun w61 b62 hb63 s64 ob65 => ?_)
 have ne66 : b2 ≠ b62 := ob58.ne_new hb63
 have ne67 : b13 ≠ b62 := ob59.ne_new hb63
 have ne68 : b26 ≠ b62 := ob60.ne_new hb63
 have ne69 : b41 ≠ b62 := ob56.ne_new hb63
 have g70 : w0.heap.size ≤ b62 := by rw [hb63]; exact S57.size
 have S71 := S57.trans0 s64
 refine Z47 rfl rfl rfl rfl Z72 Z08 (.inl rfl) ob65 S71.sub rfl (fun w72 s73 ob74 => ?_)
 have S75 := S71.trans1 s73 (.inr g70)
 refine Z47 rfl rfl rfl rfl Z72 Z08 (.inl rfl) ob74 S75.sub rfl (fun w76 s77 ob78 => ?_)
 have S79 := S75.trans1 s77 (.inr g70)
 refine Z47 rfl rfl rfl rfl Z72 Z08 (.inl rfl) ob78 S79.sub rfl (fun w80 s81 ob82 => ?_)
 have S83 := S79.trans1 s81 (.inr g70)
 refine Z47 rfl rfl rfl rfl Z72 Z08 (.inl rfl) ob82 S83.sub rfl (fun w84 s85 ob86 => ?_)
 have S87 := S83.trans1 s85 (.inr g70)
 refine Wm rfl rfl ?_
 have ob88 := (((((ob58.step0 s64).step1 s73 ne66).step1 s77 ne66).step1 s81 ne66).step1 s85 ne66)
 have ob89 := (((((ob59.step0 s64).step1 s73 ne67).step1 s77 ne67).step1 s81 ne67).step1 s85 ne67)
 have ob90 := (((((ob60.step0 s64).step1 s73 ne68).step1 s77 ne68).step1 s81 ne68).step1 s85 ne68)
 have ob91 := (((((ob56.step0 s64).step1 s73 ne69).step1 s77 ne69).step1 s81 ne69).step1 s85 ne69)
 refine Zbu rfl rfl S87.sub (fun w92 b93 hb94 s95 ob96 => ?_)
 have ne97 : b2 ≠ b93 := ob88.ne_new hb94
 have ne98 : b13 ≠ b93 := ob89.ne_new hb94
 have ne99 : b26 ≠ b93 := ob90.ne_new hb94
 have ne100 : b41 ≠ b93 := ob91.ne_new hb94
 have ne101 : b62 ≠ b93 := ob86.ne_new hb94
 have g102 : w0.heap.size ≤ b93 := by rw [hb94]; exact S87.size
 have S103 := S87.trans0 s95
 refine Z47 rfl rfl rfl rfl Z72 Z08 (.inl rfl) ob96 S103.sub rfl (fun w104 s105 ob106 => ?_)
 have S107 := S103.trans1 s105 (.inr g102)
 refine Z47 rfl rfl rfl rfl Z72 Z08 (.inl rfl) ob106 S107.sub rfl (fun w108 s109 ob110 => ?_)
 have S111 := S107.trans1 s109 (.inr g102)
 refine Wm rfl rfl ?_
 have ob112 := (((ob88.step0 s95).step1 s105 ne97).step1 s109 ne97)
 have ob113 := (((ob89.step0 s95).step1 s105 ne98).step1 s109 ne98)
 have ob114 := (((ob90.step0 s95).step1 s105 ne99).step1 s109 ne99)
 have ob115 := (((ob91.step0 s95).step1 s105 ne100).step1 s109 ne100)
 have ob116 := (((ob86.step0 s95).step1 s105 ne101).step1 s109 ne101)
 refine Zbu rfl rfl S111.sub (fun w117 b118 hb119 s120 ob121 => ?_)
 have ne122 : b2 ≠ b118 := ob112.ne_new hb119
 have ne123 : b13 ≠ b118 := ob113.ne_new hb119
 have ne124 : b26 ≠ b118 := ob114.ne_new hb119
 have ne125 : b41 ≠ b118 := ob115.ne_new hb119
 have ne126 : b62 ≠ b118 := ob116.ne_new hb119
 have ne127 : b93 ≠ b118 := ob110.ne_new hb119
 have g128 : w0.heap.size ≤ b118 := by rw [hb119]; exact S111.size
 have S129 := S111.trans0 s120
 refine Z47 rfl rfl rfl rfl Z72 Z08 (.inl rfl) ob121 S129.sub rfl (fun w130 s131 ob132 => ?_)
 have S133 := S129.trans1 s131 (.inr g128)
 refine Z47 rfl rfl rfl rfl Z72 Z08 (.inl rfl) ob132 S133.sub rfl (fun w134 s135 ob136 => ?_)
 have S137 := S133.trans1 s135 (.inr g128)
 refine Z47 rfl rfl rfl rfl Z72 Z08 (.inl rfl) ob136 S137.sub rfl (fun w138 s139 ob140 => ?_)
 have S141 := S137.trans1 s139 (.inr g128)
 refine Wm rfl rfl ?_
 have ob142 := ((((ob112.step0 s120).step1 s131 ne122).step1 s135 ne122).step1 s139 ne122)
 obtain ⟨h143, s144, rm145⟩ := MB.freeze (evl := (fun x : Int => vi x)) (T := ([(b'15, 8)] : List (ByteArray × Int))) ob142 S141.sub
 have S146 := S141.trans1 s144 (.inr g6)
 have ob147 := (((((ob113.step0 s120).step1 s131 ne123).step1 s135 ne123).step1 s139 ne123).step1 s144 (Ne.symm ne17))
 obtain ⟨h148, s149, rm150⟩ := MB.freeze (evl := (fun x : Int => vi x)) (T := ([(b'24, 9)] : List (ByteArray × Int))) ob147 S146.sub
 have S151 := S146.trans1 s149 (.inr g18)
 have ob152 := ((((((ob114.step0 s120).step1 s131 ne124).step1 s135 ne124).step1 s139 ne124).step1 s144 (Ne.symm ne30)).step1 s149 (Ne.symm ne31))
 obtain ⟨h153, s154, rm155⟩ := MB.freeze (evl := (fun x : Int => vi x)) (T := ([(b'44, 10)] : List (ByteArray × Int))) ob152 S151.sub
 have S156 := S151.trans1 s154 (.inr g32)
 have ob157 := (((((((ob115.step0 s120).step1 s131 ne125).step1 s135 ne125).step1 s139 ne125).step1 s144 (Ne.symm ne45)).step1 s149 (Ne.symm ne46)).step1 s154 (Ne.symm ne47))
 obtain ⟨h158, s159, rm160⟩ := MB.freeze (evl := (fun x : Int => vi x)) (T := ([(b'39, 11), (b'37, 12)] : List (ByteArray × Int))) ob157 S156.sub
 have S161 := S156.trans1 s159 (.inr g48)
 have ob162 := ((((((((ob116.step0 s120).step1 s131 ne126).step1 s135 ne126).step1 s139 ne126).step1 s144 (Ne.symm ne66)).step1 s149 (Ne.symm ne67)).step1 s154 (Ne.symm ne68)).step1 s159 (Ne.symm ne69))
 obtain ⟨h163, s164, rm165⟩ := MB.freeze (evl := (fun x : Int => vi x)) (T := ([(b'38, 13), (b'36, 14), (b'41, 15), (b'40, 16)] : List (ByteArray × Int))) ob162 S161.sub
 have S166 := S161.trans1 s164 (.inr g70)
 have ob167 := (((((((((ob110.step0 s120).step1 s131 ne127).step1 s135 ne127).step1 s139 ne127).step1 s144 (Ne.symm ne97)).step1 s149 (Ne.symm ne98)).step1 s154 (Ne.symm ne99)).step1 s159 (Ne.symm ne100)).step1 s164 (Ne.symm ne101))
 obtain ⟨h168, s169, rm170⟩ := MB.freeze (evl := (fun x : Int => vi x)) (T := ([(b'28, 17), (b'30, 18)] : List (ByteArray × Int))) ob167 S166.sub
 have S171 := S166.trans1 s169 (.inr g102)
 have ob172 := ((((((ob140.step1 s144 (Ne.symm ne122)).step1 s149 (Ne.symm ne123)).step1 s154 (Ne.symm ne124)).step1 s159 (Ne.symm ne125)).step1 s164 (Ne.symm ne126)).step1 s169 (Ne.symm ne127))
 obtain ⟨h173, s174, rm175⟩ := MB.freeze (evl := (fun x : Int => vi x)) (T := ([(b'27, 19), (b'32, 20), (b'12, 21)] : List (ByteArray × Int))) ob172 S171.sub
 have S176 := S171.trans1 s174 (.inr g128)
 refine Z14 (us := [.map (some b2), .map (some b13), .map (some b26), .map (some b41), .map (some b62), .map (some b93), .map (some b118)]) (cs := [.map (some b2), .map (some b13), .map (some b26), .map (some b41), .map (some b62), .map (some b93), .map (some b118)]) rfl rfl rfl Zfq t_size_166 t_zero_166 rfl (Z4a rfl (Z4a rfl (Z4a rfl (Z4a rfl (Z4a rfl (Z4a rfl (Z4a rfl Zc3))))))) rfl rfl rfl S176.sub (fun w177 h178 b179 hb180 s181 hk182 hc183 => ?_)
 have S184 := S176.trans0 s181
 have rs185 : RS h178 (sl b179 0 7 7) ([([(b'15, 8)] : List (ByteArray × Int)), ([(b'24, 9)] : List (ByteArray × Int)), ([(b'44, 10)] : List (ByteArray × Int)), ([(b'39, 11), (b'37, 12)] : List (ByteArray × Int)), ([(b'38, 13), (b'36, 14), (b'41, 15), (b'40, 16)] : List (ByteArray × Int)), ([(b'28, 17), (b'30, 18)] : List (ByteArray × Int)), ([(b'27, 19), (b'32, 20), (b'12, 21)] : List (ByteArray × Int))] : List (List (ByteArray × Int))) := RS.litL _ [[.map (some b2)], [.map (some b13)], [.map (some b26)], [.map (some b41)], [.map (some b62)], [.map (some b93)], [.map (some b118)]] rfl rfl hc183 ⟨⟨_, rfl, (rm145.mono ((s149.le).trans ((s154.le).trans ((s159.le).trans ((s164.le).trans ((s169.le).trans ((s174.le).trans s181.le)))))))⟩, ⟨_, rfl, (rm150.mono ((s154.le).trans ((s159.le).trans ((s164.le).trans ((s169.le).trans ((s174.le).trans s181.le))))))⟩, ⟨_, rfl, (rm155.mono ((s159.le).trans ((s164.le).trans ((s169.le).trans ((s174.le).trans s181.le)))))⟩, ⟨_, rfl, (rm160.mono ((s164.le).trans ((s169.le).trans ((s174.le).trans s181.le))))⟩, ⟨_, rfl, (rm165.mono ((s169.le).trans ((s174.le).trans s181.le)))⟩, ⟨_, rfl, (rm170.mono ((s174.le).trans s181.le))⟩, ⟨_, rfl, (rm175.mono (s181.le))⟩, trivial⟩
 have ow186 := Own.lit (base := w0.heap.size) (sz := 1) (m := 7) hk182 hc183 (by rw [hb180]; exact S176.size) rfl (by decide)
 refine Wa rfl rfl <| Z7 <| Z6 <| Z00 <| Zt rfl rfl ?_
 obtain rfl := Option.some.inj HF
 exact ⟨_, rfl, h178, S184, rs185⟩
theorem ok_parse_levels (k : Nat) : C_parse_levels (Zfz k) := s_parse_levels k
end Go.Proofs.YtkodnhngllfemaaGreatDoor
