import Derived.Test.YtaknpdhmhifpeaaGreatDoorE0
import Derived.Test.YtaknpdhmhifpeaaGreatDoorGP1
set_option linter.unusedVariables false
set_option linter.unusedSimpArgs false
set_option maxRecDepth 20000
set_option maxHeartbeats 4000000
namespace Go.Proofs.YtaknpdhmhifpeaaGreatDoor
open Go
def Zbb (φ : St → ByteArray → Option ByteArray) : Prop := ∀ ⦃x1 : St⦄ ⦃x4 : ByteArray⦄ ⦃r : ByteArray⦄, φ x1 x4 = some r → ∀ ⦃w0 : World⦄ ⦃h0 : Hp⦄ ⦃cs2 : List Value⦄, Sub h0 w0 → Rp.R h0 x1 cs2 →
  Calls Tryz.prog 53 #[.agg cs2.toArray, .string x4] w0 fun e w1 => ∃ v, e = .returned v ∧ ∃ h1, Stp [] w0 h0 w1 h1 ∧ v = .string r
def Z9n (φ : (List St) → ByteArray → Option ByteArray) : Prop := ∀ ⦃xs1 : List St⦄ ⦃x4 : ByteArray⦄ ⦃r : ByteArray⦄, φ xs1 x4 = some r → ∀ ⦃w0 : World⦄ ⦃h0 : Hp⦄ ⦃v2 : Value⦄, Sub h0 w0 → RS h0 v2 xs1 →
  Calls Tryz.prog 24 #[v2, .string x4] w0 fun e w1 => ∃ v, e = .returned v ∧ ∃ h1, Stp [] w0 h0 w1 h1 ∧ v = .string r
def Z9m (φ : St → ByteArray → Option ByteArray) : Prop := ∀ ⦃x1 : St⦄ ⦃x4 : ByteArray⦄ ⦃r : ByteArray⦄, φ x1 x4 = some r → ∀ ⦃w0 : World⦄ ⦃h0 : Hp⦄ ⦃cs2 : List Value⦄, Sub h0 w0 → Rp.R h0 x1 cs2 →
  Calls Tryz.prog 77 #[.agg cs2.toArray, .string x4] w0 fun e w1 => ∃ v, e = .returned v ∧ ∃ h1, Stp [] w0 h0 w1 h1 ∧ v = .string r
theorem s_ref03_stmt (k : Nat) (IH : ∀ j, j ≤ k → Zbb (Zo j).ref03_stmt ∧ Z9n (Zo j).ref03_Stmts ∧ Z9m (Zo j).ref03_other) : Zbb (Z1r k (Zo k)) := by
 intro x1 x4 r HF w0 h0 cs2 hs0 r3
 have S0 : Stp [] w0 h0 w0 h0 := Stp.refl hs0 _
 refine Z66 (n := 237) Tryz.func53 rfl Tryz.ntmps53 rfl [(0, .agg cs2.toArray), (1, .string x4)] rfl <| Za <| Z0 ?_
 obtain ⟨v5, v7, v9, v11, v13, v15, rfl, rs6, rs8, rs10, rs12, rs14, rs16⟩ := rp_St.1 r3
 refine Zd2 (cs := [vi x1.op, .string x1.name, v5, v7, v9, vi x1.n, v11, v13, v15, .bool x1.els]) rfl rfl rfl rfl S0.sub (fun w17 b18 hb19 s20 ob21 => ?_)
 have g22 : w0.heap.size ≤ b18 := by rw [hb19]; exact S0.size
 have S23 := S0.trans0 s20
 refine Wa rfl rfl <| Z7 <| Z5 <| Z04 (fun E w423 => ∃ (h422 : Hp), ref03_stmt_j7 k (Zo k) x4 = some r ∧ E = [(1, .string x4)] ∧ Stp [] w0 h0 w423 h422 ∧ Hle h0 h422) ?_ ?_
 ·rintro E w423 ⟨h422, HF, rfl, S425, le424⟩
  refine Za <| Z0 <| Wm rfl rfl ?_
  obtain ⟨hl426, HF⟩ := Zj HF
  refine Wv rfl (Zs rfl rfl hl426) <| Wa rfl rfl <| Z7 <| Z5 <| Z09 <| Zt rfl rfl ?_
  obtain rfl := Option.some.inj HF
  exact ⟨_, rfl, h422, S425, rfl⟩
 intro J427
 refine Za <| Z0 <| Wv rfl (Z2 rfl Z1g) <| Wv rfl (Z8 rfl Z0t (OB.cell ob21 (j := 0) rfl)) <| Z7 <| Z5 <| Z0c <| Za <| Z0 <| Wv rfl (Z0y rfl rfl) <| Wa rfl rfl <| Z7 <| Z5 <| Z12 HF rfl (fun HF => ?_) (fun HF => ?_)
 ·refine Za <| Z0 <| Wv rfl (Z2 rfl Z62) <| Wv rfl (Z8 rfl Z3l (OB.cell ob21 (j := 1) rfl)) <| Wa rfl rfl <| Z7 <| Z5 <| Z04 (fun E w40 => ∃ (h39 : Hp) (x43 : ByteArray), Zbr k (Zo k) x1 x4 x43 = some r ∧ E = [(1, .string x4), (2, pt b18 0), (5, .string x43)] ∧ Stp [] w0 h0 w40 h39 ∧ Hle h0 h39 ∧ OB w40 h39 b18 44 [vi x1.op, .string x1.name, v5, v7, v9, vi x1.n, v11, v13, v15, .bool x1.els]) ?_ ?_
  ·rintro E w40 ⟨h39, x43, HF, rfl, S42, le41, ob44⟩
   refine Za <| Z0 <| Wm rfl rfl <| Wm rfl rfl ?_
   obtain ⟨hl45, HF⟩ := Zj HF
   refine Wv rfl (Zs rfl rfl hl45) ?_
   obtain ⟨hl46, HF⟩ := Zj HF
   refine Wv rfl (Zs rfl rfl hl46) <| Wv rfl (Z2 rfl Z1f) <| Wv rfl (Z8 rfl Z0h (OB.cell ob44 (j := 4) rfl)) ?_
   obtain ⟨r47, hr48, HF⟩ := Z6 HF
   refine Wc rfl (Zi (vs := [v9]) rfl Zea) (Z6t _ hr48 S42.sub (rs10.mono ((s20.le).trans le41))) ?_
   rintro _ w50 ⟨h51, s52, rfl⟩
   have S53 := S42.trans0 s52
   obtain ⟨hl54, HF⟩ := Zj HF
   refine Wv rfl (Zs rfl rfl hl54) ?_
   obtain ⟨hl55, HF⟩ := Zj HF
   refine Wv rfl (Zs rfl rfl hl55) <| Wa rfl rfl <| Z7 <| Z5 <| Z09 <| Z03 <| Zp <| Zt rfl rfl ?_
   obtain rfl := Option.some.inj HF
   exact ⟨_, rfl, h51, S53, rfl⟩
  intro J56
  refine Za <| Z0 <| Wv rfl (Z2 rfl Z5h) <| Wv rfl (Z8 rfl Z0h (OB.cell ob21 (j := 2) rfl)) ?_
  obtain ⟨A25, c26, rfl, rs27⟩ := RS.form (rs6.mono (s20.le))
  refine Wv rfl (Z0v rfl Zx) <| Wv rfl (Zao rfl rfl) <| Z7 <| Z5 <| Z12 HF rfl (fun HF => ?_) (fun HF => ?_)
  ·refine Z0 <| Wm rfl rfl ?_
   obtain ⟨hl29, HF⟩ := Zj HF
   refine Wv rfl (Zs rfl rfl hl29) <| Wv rfl (Z2 rfl Z5h) <| Wv rfl (Z8 rfl Z0h (OB.cell ob21 (j := 2) rfl)) ?_
   obtain ⟨r30, hr31, HF⟩ := Z6 HF
   refine Wc rfl (Zi (vs := [.slice A25 (x1.index).length c26]) rfl Zea) (Z6t _ hr31 S23.sub rs27) ?_
   rintro _ w33 ⟨h34, s35, rfl⟩
   have S36 := S23.trans0 s35
   obtain ⟨hl37, HF⟩ := Zj HF
   refine Wv rfl (Zs rfl rfl hl37) ?_
   obtain ⟨hl38, HF⟩ := Zj HF
   refine Wv rfl (Zs rfl rfl hl38) <| Wa rfl rfl <| Z7 ?_
   have ob57 := (ob21.step0 s35)
   refine Z06 [1, 2, 5] _ rfl ?_
   exact J56 ⟨h34, ((x1.name ++ b'115) ++ r30) ++ b'116, HF, rfl, S36, s35.le, ob57⟩
  refine Zm <| Z06 [1, 2, 5] _ rfl ?_
  exact J56 ⟨h0, x1.name, HF, rfl, S23, Hle.refl _, ob21⟩
 refine Za <| Z0 <| Wv rfl (Z0y rfl rfl) <| Wa rfl rfl <| Z7 <| Z5 <| Z12 HF rfl (fun HF => ?_) (fun HF => ?_)
 ·refine Za ?_
  obtain ⟨hl59, HF⟩ := Zj HF
  obtain ⟨hl60, HF⟩ := Zj HF
  obtain ⟨r61, hr62, HF⟩ := Z6 HF
  refine Z2z (m := 10) [(1, .string x4), (2, pt b18 0), (4, .string Z2c)] [1, 2, 4] rfl (fun i v w h => match i with | 0 => v = .string x4 | 1 => v = pt b18 1 | 2 => v = .string x1.name | 3 => v = .string (x4 ++ x1.name) | 4 => v = .string ((x4 ++ x1.name) ++ b'99) | 5 => v = pt b18 3 | 6 => v = v7 | 7 => v = pt b18 4 | 8 => v = v9 | 9 => v = .string r61 | _ => True) Z4c S23.sub rfl rfl rfl rfl rfl ?_ ?_ ?_
  ·intro i v w h w2 h2 hΦ hst
   match i, hΦ with
   | 0, hΦ | 1, hΦ | 2, hΦ | 3, hΦ | 4, hΦ | 5, hΦ | 6, hΦ | 7, hΦ | 8, hΦ | 9, hΦ => exact hΦ
   | i + 10, _ => exact trivial
  ·refine ⟨?_, ?_, ?_, ?_, ?_, ?_, ?_, ?_, ?_, ?_, trivial⟩
   ·intro a w63 h64 s65 hat hF
    exact Z4 hat rfl (Z0j rfl) s65.sub (by exact rfl)
   ·intro a w63 h64 s65 hat hF
    exact Z4 hat rfl (Z2 rfl Z62) s65.sub (by exact rfl)
   ·intro a w63 h64 s65 hat hF
    have ob66 := (ob21.step0 s65)
    exact Z4 (Z1 hat (hF 1 40 rfl rfl)) rfl (Z8 rfl Z3l (OB.cell ob66 (j := 1) rfl)) s65.sub (by exact rfl)
   ·intro a w63 h64 s65 hat hF
    exact Z4 (Z1 (Z1 hat (hF 0 39 rfl rfl)) (hF 2 41 rfl rfl)) rfl (Zs rfl rfl hl59) s65.sub (by exact rfl)
   ·intro a w63 h64 s65 hat hF
    exact Z4 (Z1 hat (hF 3 42 rfl rfl)) rfl (Zs rfl rfl hl60) s65.sub (by exact rfl)
   ·intro a w63 h64 s65 hat hF
    exact Z4 hat rfl (Z2 rfl Z72) s65.sub (by exact rfl)
   ·intro a w63 h64 s65 hat hF
    have ob67 := (ob21.step0 s65)
    exact Z4 (Z1 hat (hF 5 44 rfl rfl)) rfl (Z8 rfl Zdl (OB.cell ob67 (j := 3) rfl)) s65.sub (by exact rfl)
   ·intro a w63 h64 s65 hat hF
    exact Z4 hat rfl (Z2 rfl Z1f) s65.sub (by exact rfl)
   ·intro a w63 h64 s65 hat hF
    have ob68 := (ob21.step0 s65)
    exact Z4 (Z1 hat (hF 7 46 rfl rfl)) rfl (Z8 rfl Z0h (OB.cell ob68 (j := 4) rfl)) s65.sub (by exact rfl)
   intro a w63 h64 s65 hat hF
   refine Z0n (Z1 (Z1 hat (hF 6 45 rfl rfl)) (hF 8 47 rfl rfl)) rfl (Zi (vs := [v7, v9]) rfl t_ent_76) (ok_ref03_Fields _ hr62 s65.sub (rs8.mono ((s20.le).trans s65.le)) (rs10.mono ((s20.le).trans s65.le))) ?_
   rintro _ w69 ⟨h70, s71, rfl⟩
   exact ⟨_, h70, rfl, s71, (by exact rfl)⟩
  intro a w63 h64 s65 hat hF
  obtain hv0 := hF 0 39 (by decide) rfl
  obtain hv1 := hF 1 40 (by decide) rfl
  obtain hv2 := hF 2 41 (by decide) rfl
  obtain hv3 := hF 3 42 (by decide) rfl
  obtain hv4 := hF 4 43 (by decide) rfl
  obtain hv5 := hF 5 44 (by decide) rfl
  obtain hv6 := hF 6 45 (by decide) rfl
  obtain hv7 := hF 7 46 (by decide) rfl
  obtain hv8 := hF 8 47 (by decide) rfl
  obtain hv9 := hF 9 48 (by decide) rfl
  refine Z7u [(48, .string r61), (47, v9), (46, pt b18 4), (45, v7), (44, pt b18 3), (43, .string ((x4 ++ x1.name) ++ b'99)), (42, .string (x4 ++ x1.name)), (41, .string x1.name), (40, pt b18 1), (39, .string x4), (1, .string x4), (2, pt b18 0), (4, .string Z2c)] (Z1 (Z1 (Z1 (Z1 (Z1 (Z1 (Z1 (Z1 (Z1 (Z1 hat hv0) hv1) hv2) hv3) hv4) hv5) hv6) hv7) hv8) hv9) ?_
  have S72 := S23.trans0 s65
  obtain ⟨hl73, HF⟩ := Zj HF
  refine Wv rfl (Zs rfl rfl hl73) ?_
  obtain ⟨hl74, HF⟩ := Zj HF
  refine Wv rfl (Zs rfl rfl hl74) <| Wa rfl rfl <| Z7 <| Z5 <| Z09 <| Z03 <| Zp <| Zt rfl rfl ?_
  obtain rfl := Option.some.inj HF
  exact ⟨_, rfl, h64, S72, rfl⟩
 refine Za <| Z0 <| Wv rfl (Z0y rfl rfl) <| Wa rfl rfl <| Z7 <| Z5 <| Z12 HF rfl (fun HF => ?_) (fun HF => ?_)
 ·refine Za ?_
  obtain ⟨hl76, HF⟩ := Zj HF
  obtain ⟨r77, hr78, HF⟩ := Z6 HF
  obtain ⟨hl79, HF⟩ := Zj HF
  obtain ⟨hl80, HF⟩ := Zj HF
  obtain ⟨hl81, HF⟩ := Zj HF
  obtain ⟨r82, hr83, HF⟩ := Z6 HF
  refine Z2z (m := 12) [(1, .string x4), (2, pt b18 0)] [1, 2] rfl (fun i v w h => match i with | 0 => v = .string x4 | 1 => v = .string (x4 ++ b'25) | 2 => v = pt b18 4 | 3 => v = v9 | 4 => v = .string r77 | 5 => v = .string ((x4 ++ b'25) ++ r77) | 6 => v = .string (((x4 ++ b'25) ++ r77) ++ b'91) | 7 => v = pt b18 6 | 8 => v = v11 | 9 => v = .string x4 | 10 => v = .string (x4 ++ b'95) | 11 => v = .string r82 | _ => True) Z4c S23.sub rfl rfl rfl rfl rfl ?_ ?_ ?_
  ·intro i v w h w2 h2 hΦ hst
   match i, hΦ with
   | 0, hΦ | 1, hΦ | 2, hΦ | 3, hΦ | 4, hΦ | 5, hΦ | 6, hΦ | 7, hΦ | 8, hΦ | 9, hΦ | 10, hΦ | 11, hΦ => exact hΦ
   | i + 12, _ => exact trivial
  ·refine ⟨?_, ?_, ?_, ?_, ?_, ?_, ?_, ?_, ?_, ?_, ?_, ?_, trivial⟩
   ·intro a w84 h85 s86 hat hF
    exact Z4 hat rfl (Z0j rfl) s86.sub (by exact rfl)
   ·intro a w84 h85 s86 hat hF
    exact Z4 (Z1 hat (hF 0 53 rfl rfl)) rfl (Zs rfl rfl hl76) s86.sub (by exact rfl)
   ·intro a w84 h85 s86 hat hF
    exact Z4 hat rfl (Z2 rfl Z1f) s86.sub (by exact rfl)
   ·intro a w84 h85 s86 hat hF
    have ob87 := (ob21.step0 s86)
    exact Z4 (Z1 hat (hF 2 55 rfl rfl)) rfl (Z8 rfl Z0h (OB.cell ob87 (j := 4) rfl)) s86.sub (by exact rfl)
   ·intro a w84 h85 s86 hat hF
    refine Z0n (Z1 hat (hF 3 56 rfl rfl)) rfl (Zi (vs := [v9]) rfl Zea) (Z6t _ hr78 s86.sub (rs10.mono ((s20.le).trans s86.le))) ?_
    rintro _ w88 ⟨h89, s90, rfl⟩
    exact ⟨_, h89, rfl, s90, (by exact rfl)⟩
   ·intro a w84 h85 s86 hat hF
    exact Z4 (Z1 (Z1 hat (hF 1 54 rfl rfl)) (hF 4 57 rfl rfl)) rfl (Zs rfl rfl hl79) s86.sub (by exact rfl)
   ·intro a w84 h85 s86 hat hF
    exact Z4 (Z1 hat (hF 5 58 rfl rfl)) rfl (Zs rfl rfl hl80) s86.sub (by exact rfl)
   ·intro a w84 h85 s86 hat hF
    exact Z4 hat rfl (Z2 rfl Z48) s86.sub (by exact rfl)
   ·intro a w84 h85 s86 hat hF
    have ob91 := (ob21.step0 s86)
    exact Z4 (Z1 hat (hF 7 60 rfl rfl)) rfl (Z8 rfl Z2r (OB.cell ob91 (j := 6) rfl)) s86.sub (by exact rfl)
   ·intro a w84 h85 s86 hat hF
    exact Z4 hat rfl (Z0j rfl) s86.sub (by exact rfl)
   ·intro a w84 h85 s86 hat hF
    exact Z4 (Z1 hat (hF 9 62 rfl rfl)) rfl (Zs rfl rfl hl81) s86.sub (by exact rfl)
   intro a w84 h85 s86 hat hF
   refine Z0n (Z1 (Z1 hat (hF 8 61 rfl rfl)) (hF 10 63 rfl rfl)) rfl (Zi (vs := [v11, .string (x4 ++ b'95)]) rfl t_ent_24) ((IH _ (Nat.le_refl _)).2.1 hr83 s86.sub (rs12.mono ((s20.le).trans s86.le))) ?_
   rintro _ w92 ⟨h93, s94, rfl⟩
   exact ⟨_, h93, rfl, s94, (by exact rfl)⟩
  intro a w84 h85 s86 hat hF
  obtain hv0 := hF 0 53 (by decide) rfl
  obtain hv1 := hF 1 54 (by decide) rfl
  obtain hv2 := hF 2 55 (by decide) rfl
  obtain hv3 := hF 3 56 (by decide) rfl
  obtain hv4 := hF 4 57 (by decide) rfl
  obtain hv5 := hF 5 58 (by decide) rfl
  obtain hv6 := hF 6 59 (by decide) rfl
  obtain hv7 := hF 7 60 (by decide) rfl
  obtain hv8 := hF 8 61 (by decide) rfl
  obtain hv9 := hF 9 62 (by decide) rfl
  obtain hv10 := hF 10 63 (by decide) rfl
  obtain hv11 := hF 11 64 (by decide) rfl
  refine Z7u [(64, .string r82), (63, .string (x4 ++ b'95)), (62, .string x4), (61, v11), (60, pt b18 6), (59, .string (((x4 ++ b'25) ++ r77) ++ b'91)), (58, .string ((x4 ++ b'25) ++ r77)), (57, .string r77), (56, v9), (55, pt b18 4), (54, .string (x4 ++ b'25)), (53, .string x4), (1, .string x4), (2, pt b18 0)] (Z1 (Z1 (Z1 (Z1 (Z1 (Z1 (Z1 (Z1 (Z1 (Z1 (Z1 (Z1 hat hv0) hv1) hv2) hv3) hv4) hv5) hv6) hv7) hv8) hv9) hv10) hv11) ?_
  have S95 := S23.trans0 s86
  obtain ⟨hl96, HF⟩ := Zj HF
  refine Wv rfl (Zs rfl rfl hl96) <| Wa rfl rfl <| Z7 <| Z5 <| Za <| Za <| Z0 <| Wa rfl rfl <| Z7 <| Z5 <| Z0c <| Z4j <| Z8e [1, 2, 6, 7] [(1, .string x4), (2, pt b18 0), (6, .string ((((x4 ++ b'25) ++ r77) ++ b'91) ++ r82)), (7, vi 0)] rfl <| Z4m (K := k) (fun j E w98 => ∃ (h97 : Hp) (x101 : ByteArray) (x102 : Int) (xs103 : List Ar) (v104 : Value), (Zo j).ref03_stmt_l2 x1 x4 x101 x102 xs103 = some r ∧ E = [(1, .string x4), (2, pt b18 0), (6, .string x101), (7, vi x102)] ∧ Stp [] w0 h0 w98 h97 ∧ Hle h85 h97 ∧ RS h97 v104 xs103 ∧ OB w98 h97 b18 44 [vi x1.op, .string x1.name, v5, v7, v9, vi x1.n, v11, v104, v15, .bool x1.els]) ?_ ?_ (j := k) (Nat.le_refl _) ?_
  ·rintro E w98 ⟨_, _, _, _, _, HF, _⟩; cases HF
  ·rintro j107 hj109 IHL108 E w98 ⟨h97, x101, x102, xs103, v104, HF, rfl, S100, le99, rs105, ob106⟩
   refine Z04 (fun E w125 => ∃ (h124 : Hp), ref03_stmt_j3 j107 (Zo j107) x1 x4 x101 x102 xs103 = some r ∧ E = [(1, .string x4), (2, pt b18 0), (6, .string x101), (7, vi x102)] ∧ Stp [] w0 h0 w125 h124 ∧ Hle h97 h124 ∧ OB w125 h124 b18 44 [vi x1.op, .string x1.name, v5, v7, v9, vi x1.n, v11, v104, v15, .bool x1.els]) ?_ ?_
   ·rintro E w125 ⟨h124, HF, rfl, S127, le126, ob128⟩
    refine Za <| Z0c ?_
    obtain ⟨hl129, HF⟩ := Zj HF
    obtain ⟨hl130, HF⟩ := Zj HF
    obtain ⟨A131, c132, rfl, rs133⟩ := RS.form (rs105.mono (le126))
    obtain ⟨e134, he135, HF⟩ := Z6 HF
    obtain ⟨b136, o137, rfl, h139, h140, ra138⟩ := RS.atO rs133 he135
    obtain ⟨cs141, r142, hc143⟩ := ra138
    obtain ⟨v144, v146, v148, rfl, rs145, rs147, rs149⟩ := rp_Ar.1 r142
    obtain ⟨r150, hr151, HF⟩ := Z6 HF
    obtain ⟨hl152, HF⟩ := Zj HF
    obtain ⟨hl153, HF⟩ := Zj HF
    obtain ⟨e154, he155, HF⟩ := Z6 HF
    obtain ⟨b156, o157, hA, h159, h160, ra158⟩ := RS.atO rs133 he155
    obtain ⟨rfl, rfl⟩ := Z5m hA
    obtain ⟨cs161, r162, hc163⟩ := ra158
    obtain ⟨v164, v166, v168, rfl, rs165, rs167, rs169⟩ := rp_Ar.1 r162
    obtain ⟨hl170, HF⟩ := Zj HF
    obtain ⟨r171, hr172, HF⟩ := Z6 HF
    refine Z2z (m := 22) [(1, .string x4), (2, pt b18 0), (6, .string x101), (7, vi x102)] [1, 2, 6, 7] rfl (fun i v w h => match i with | 0 => v = .string x101 | 1 => v = .string x4 | 2 => v = .string (x101 ++ x4) | 3 => v = .string ((x101 ++ x4) ++ b'4) | 4 => v = pt b18 7 | 5 => v = sl b136 o137 (xs103).length c132 | 6 => v = vi x102 | 7 => v = pt b136 (o137 + Int.toNat x102 * 3) | 8 => v = pt b136 (o137 + Int.toNat x102 * 3) | 9 => v = v144 | 10 => v = .string r150 | 11 => v = .string (((x101 ++ x4) ++ b'4) ++ r150) | 12 => v = .string ((((x101 ++ x4) ++ b'4) ++ r150) ++ b'91) | 13 => v = pt b18 7 | 14 => v = sl b136 o137 (xs103).length c132 | 15 => v = vi x102 | 16 => v = pt b136 (o137 + Int.toNat x102 * 3) | 17 => v = pt b136 (o137 + Int.toNat x102 * 3 + 2) | 18 => v = v168 | 19 => v = .string x4 | 20 => v = .string (x4 ++ b'95) | 21 => v = .string r171 | _ => True) Z4c S127.sub rfl rfl rfl rfl rfl ?_ ?_ ?_
    ·intro i v w h w2 h2 hΦ hst
     match i, hΦ with
     | 0, hΦ | 1, hΦ | 2, hΦ | 3, hΦ | 4, hΦ | 5, hΦ | 6, hΦ | 7, hΦ | 8, hΦ | 9, hΦ | 10, hΦ | 11, hΦ | 12, hΦ | 13, hΦ | 14, hΦ | 15, hΦ | 16, hΦ | 17, hΦ | 18, hΦ | 19, hΦ | 20, hΦ | 21, hΦ => exact hΦ
     | i + 22, _ => exact trivial
    ·refine ⟨?_, ?_, ?_, ?_, ?_, ?_, ?_, ?_, ?_, ?_, ?_, ?_, ?_, ?_, ?_, ?_, ?_, ?_, ?_, ?_, ?_, ?_, trivial⟩
     ·intro a w173 h174 s175 hat hF
      exact Z4 hat rfl (Z0j rfl) s175.sub (by exact rfl)
     ·intro a w173 h174 s175 hat hF
      exact Z4 hat rfl (Z0j rfl) s175.sub (by exact rfl)
     ·intro a w173 h174 s175 hat hF
      exact Z4 (Z1 (Z1 hat (hF 0 73 rfl rfl)) (hF 1 74 rfl rfl)) rfl (Zs rfl rfl hl129) s175.sub (by exact rfl)
     ·intro a w173 h174 s175 hat hF
      exact Z4 (Z1 hat (hF 2 75 rfl rfl)) rfl (Zs rfl rfl hl130) s175.sub (by exact rfl)
     ·intro a w173 h174 s175 hat hF
      exact Z4 hat rfl (Z2 rfl Z2e) s175.sub (by exact rfl)
     ·intro a w173 h174 s175 hat hF
      have ob176 := (ob128.step0 s175)
      exact Z4 (Z1 hat (hF 4 77 rfl rfl)) rfl (Z8 rfl Z6z (OB.cell ob176 (j := 7) rfl)) s175.sub (by exact rfl)
     ·intro a w173 h174 s175 hat hF
      exact Z4 hat rfl (Z0j rfl) s175.sub (by exact rfl)
     ·intro a w173 h174 s175 hat hF
      exact Z4 (Z1 (Z1 hat (hF 5 78 rfl rfl)) (hF 6 79 rfl rfl)) rfl (Zk rfl rfl Z32 Z56 h139 h140) s175.sub (by exact rfl)
     ·intro a w173 h174 s175 hat hF
      exact Z4 (Z1 hat (hF 7 80 rfl rfl)) rfl (Z2 rfl Z50) s175.sub (by exact rfl)
     ·intro a w173 h174 s175 hat hF
      exact Z4 (Z1 hat (hF 8 81 rfl rfl)) rfl (Z8 rfl Z0h (s175.sub.at_ _ _ _ ((fun i v hv => (s175.le).1 _ _ _ (hc143 i v hv)) 0 _ rfl))) s175.sub (by exact rfl)
     ·intro a w173 h174 s175 hat hF
      refine Z0n (Z1 hat (hF 9 82 rfl rfl)) rfl (Zi (vs := [v144]) rfl Zea) (Z6t _ hr151 s175.sub (rs145.mono (s175.le))) ?_
      rintro _ w177 ⟨h178, s179, rfl⟩
      exact ⟨_, h178, rfl, s179, (by exact rfl)⟩
     ·intro a w173 h174 s175 hat hF
      exact Z4 (Z1 (Z1 hat (hF 3 76 rfl rfl)) (hF 10 83 rfl rfl)) rfl (Zs rfl rfl hl152) s175.sub (by exact rfl)
     ·intro a w173 h174 s175 hat hF
      exact Z4 (Z1 hat (hF 11 84 rfl rfl)) rfl (Zs rfl rfl hl153) s175.sub (by exact rfl)
     ·intro a w173 h174 s175 hat hF
      exact Z4 hat rfl (Z2 rfl Z2e) s175.sub (by exact rfl)
     ·intro a w173 h174 s175 hat hF
      have ob180 := (ob128.step0 s175)
      exact Z4 (Z1 hat (hF 13 86 rfl rfl)) rfl (Z8 rfl Z6z (OB.cell ob180 (j := 7) rfl)) s175.sub (by exact rfl)
     ·intro a w173 h174 s175 hat hF
      exact Z4 hat rfl (Z0j rfl) s175.sub (by exact rfl)
     ·intro a w173 h174 s175 hat hF
      exact Z4 (Z1 (Z1 hat (hF 14 87 rfl rfl)) (hF 15 88 rfl rfl)) rfl (Zk rfl rfl Z32 Z56 h159 h160) s175.sub (by exact rfl)
     ·intro a w173 h174 s175 hat hF
      exact Z4 (Z1 hat (hF 16 89 rfl rfl)) rfl (Z2 rfl Z99) s175.sub (by exact rfl)
     ·intro a w173 h174 s175 hat hF
      exact Z4 (Z1 hat (hF 17 90 rfl rfl)) rfl (Z8 rfl Z2r (s175.sub.at_ _ _ _ ((fun i v hv => (s175.le).1 _ _ _ (hc163 i v hv)) 2 _ rfl))) s175.sub (by exact rfl)
     ·intro a w173 h174 s175 hat hF
      exact Z4 hat rfl (Z0j rfl) s175.sub (by exact rfl)
     ·intro a w173 h174 s175 hat hF
      exact Z4 (Z1 hat (hF 19 92 rfl rfl)) rfl (Zs rfl rfl hl170) s175.sub (by exact rfl)
     intro a w173 h174 s175 hat hF
     refine Z0n (Z1 (Z1 hat (hF 18 91 rfl rfl)) (hF 20 93 rfl rfl)) rfl (Zi (vs := [v168, .string (x4 ++ b'95)]) rfl t_ent_24) ((IH _ (Nat.le_trans (Nat.le_of_succ_le hj109) (Nat.le_refl _))).2.1 hr172 s175.sub (rs169.mono (s175.le))) ?_
     rintro _ w181 ⟨h182, s183, rfl⟩
     exact ⟨_, h182, rfl, s183, (by exact rfl)⟩
    intro a w173 h174 s175 hat hF
    obtain hv0 := hF 0 73 (by decide) rfl
    obtain hv1 := hF 1 74 (by decide) rfl
    obtain hv2 := hF 2 75 (by decide) rfl
    obtain hv3 := hF 3 76 (by decide) rfl
    obtain hv4 := hF 4 77 (by decide) rfl
    obtain hv5 := hF 5 78 (by decide) rfl
    obtain hv6 := hF 6 79 (by decide) rfl
    obtain hv7 := hF 7 80 (by decide) rfl
    obtain hv8 := hF 8 81 (by decide) rfl
    obtain hv9 := hF 9 82 (by decide) rfl
    obtain hv10 := hF 10 83 (by decide) rfl
    obtain hv11 := hF 11 84 (by decide) rfl
    obtain hv12 := hF 12 85 (by decide) rfl
    obtain hv13 := hF 13 86 (by decide) rfl
    obtain hv14 := hF 14 87 (by decide) rfl
    obtain hv15 := hF 15 88 (by decide) rfl
    obtain hv16 := hF 16 89 (by decide) rfl
    obtain hv17 := hF 17 90 (by decide) rfl
    obtain hv18 := hF 18 91 (by decide) rfl
    obtain hv19 := hF 19 92 (by decide) rfl
    obtain hv20 := hF 20 93 (by decide) rfl
    obtain hv21 := hF 21 94 (by decide) rfl
    refine Z7u [(94, .string r171), (93, .string (x4 ++ b'95)), (92, .string x4), (91, v168), (90, pt b136 (o137 + Int.toNat x102 * 3 + 2)), (89, pt b136 (o137 + Int.toNat x102 * 3)), (88, vi x102), (87, sl b136 o137 (xs103).length c132), (86, pt b18 7), (85, .string ((((x101 ++ x4) ++ b'4) ++ r150) ++ b'91)), (84, .string (((x101 ++ x4) ++ b'4) ++ r150)), (83, .string r150), (82, v144), (81, pt b136 (o137 + Int.toNat x102 * 3)), (80, pt b136 (o137 + Int.toNat x102 * 3)), (79, vi x102), (78, sl b136 o137 (xs103).length c132), (77, pt b18 7), (76, .string ((x101 ++ x4) ++ b'4)), (75, .string (x101 ++ x4)), (74, .string x4), (73, .string x101), (1, .string x4), (2, pt b18 0), (6, .string x101), (7, vi x102)] (Z1 (Z1 (Z1 (Z1 (Z1 (Z1 (Z1 (Z1 (Z1 (Z1 (Z1 (Z1 (Z1 (Z1 (Z1 (Z1 (Z1 (Z1 (Z1 (Z1 (Z1 (Z1 hat hv0) hv1) hv2) hv3) hv4) hv5) hv6) hv7) hv8) hv9) hv10) hv11) hv12) hv13) hv14) hv15) hv16) hv17) hv18) hv19) hv20) hv21) ?_
    have S184 := S127.trans0 s175
    obtain ⟨hl185, HF⟩ := Zj HF
    refine Wv rfl (Zs rfl rfl hl185) <| Wa rfl rfl <| Z7 <| Zv <| Z5 <| Z0 <| Wm rfl rfl <| Wv rfl (Z2v rfl rfl) <| Wa rfl rfl <| Z7 ?_
    have ob187 := (ob128.step0 s175)
    refine Z2x <| Z8e [1, 2, 6, 7] [(1, .string x4), (2, pt b18 0), (6, .string (((((x101 ++ x4) ++ b'4) ++ r150) ++ b'91) ++ r171)), (7, vi (IntKind.i64.wrap (x102 + 1)))] rfl ?_
    exact IHL108 j107 (Nat.le_refl _) _ _ ⟨h174, ((((x101 ++ x4) ++ b'4) ++ r150) ++ b'91) ++ r171, IntKind.i64.wrap (x102 + 1), xs103, sl b136 o137 (xs103).length c132, HF, rfl, S184, (le99).trans ((le126).trans s175.le), (rs133.mono (s175.le)), ob187⟩
   intro J186
   refine Za <| Z0 <| Wm rfl rfl <| Wv rfl (Z2 rfl Z2e) <| Wv rfl (Z8 rfl Z6z (OB.cell ob106 (j := 7) rfl)) ?_
   obtain ⟨A110, c111, rfl, rs112⟩ := RS.form rs105
   refine Wv rfl (Z0v rfl Z32) <| Wv rfl (Z6q rfl rfl) <| Z7 <| Z5 <| Z12 HF rfl (fun HF => ?_) (fun HF => ?_)
   ·refine Zm <| Z06 [1, 2, 6, 7] _ rfl ?_
    exact J186 ⟨h97, HF, rfl, S100, Hle.refl _, ob106⟩
   refine Z4b <| Zr <| Zr <| Z0x <| Z5 <| Za <| Z0 <| Wm rfl rfl <| Wv rfl (Z0w (cs := [vi x1.op, .string x1.name, v5, v7, v9, vi x1.n, v11, .slice A110 (xs103).length c111, v15, .bool x1.els]) rfl Zb8 Z2g (OB.cells ob106 0 rfl)) <| Wm rfl rfl ?_
   obtain ⟨r114, hr115, HF⟩ := Z6 HF
   refine Wc rfl (Zi (vs := [.agg #[vi x1.op, .string x1.name, v5, v7, v9, vi x1.n, v11, .slice A110 (xs103).length c111, v15, .bool x1.els], .string x4]) rfl t_ent_77) ((IH _ (Nat.le_trans (Nat.le_of_succ_le hj109) (Nat.le_refl _))).2.2 hr115 S100.sub (rp_St.2 ⟨_, _, _, _, _, _, rfl, (rs6.mono ((s20.le).trans ((s86.le).trans le99))), (rs8.mono ((s20.le).trans ((s86.le).trans le99))), (rs10.mono ((s20.le).trans ((s86.le).trans le99))), (rs12.mono ((s20.le).trans ((s86.le).trans le99))), rs112, (rs16.mono ((s20.le).trans ((s86.le).trans le99)))⟩)) ?_
   rintro _ w117 ⟨h118, s119, rfl⟩
   have S120 := S100.trans0 s119
   obtain ⟨hl121, HF⟩ := Zj HF
   refine Wv rfl (Zs rfl rfl hl121) <| Wm rfl rfl ?_
   obtain ⟨hl122, HF⟩ := Zj HF
   refine Wv rfl (Zs rfl rfl hl122) ?_
   obtain ⟨hl123, HF⟩ := Zj HF
   refine Wv rfl (Zs rfl rfl hl123) <| Wa rfl rfl <| Z7 <| Z5 <| Z09 <| Z03 <| Zp <| Zt rfl rfl ?_
   obtain rfl := Option.some.inj HF
   exact ⟨_, rfl, h118, S120, rfl⟩
  have ob188 := (ob21.step0 s86)
  exact ⟨h85, (((x4 ++ b'25) ++ r77) ++ b'91) ++ r82, 0, x1.arms, v13, HF, rfl, S95, Hle.refl _, (rs14.mono ((s20.le).trans s86.le)), ob188⟩
 refine Za <| Z0 <| Wv rfl (Z0y rfl rfl) <| Wa rfl rfl <| Z7 <| Z5 <| Z12 HF rfl (fun HF => ?_) (fun HF => ?_)
 ·refine Za <| Z0 <| Wm rfl rfl ?_
  obtain ⟨hl190, HF⟩ := Zj HF
  refine Wv rfl (Zs rfl rfl hl190) <| Wv rfl (Z2 rfl Z1f) <| Wv rfl (Z8 rfl Z0h (OB.cell ob21 (j := 4) rfl)) ?_
  obtain ⟨r191, hr192, HF⟩ := Z6 HF
  refine Wc rfl (Zi (vs := [v9]) rfl Zea) (Z6t _ hr192 S23.sub (rs10.mono (s20.le))) ?_
  rintro _ w194 ⟨h195, s196, rfl⟩
  have S197 := S23.trans0 s196
  obtain ⟨hl198, HF⟩ := Zj HF
  refine Wv rfl (Zs rfl rfl hl198) ?_
  obtain ⟨hl199, HF⟩ := Zj HF
  refine Wv rfl (Zs rfl rfl hl199) <| Wa rfl rfl <| Z7 <| Z5 <| Za <| Za <| Z0 <| Wa rfl rfl <| Z7 <| Z5 <| Z0c <| Z4j <| Z8e [1, 2, 8, 9] [(1, .string x4), (2, pt b18 0), (8, .string (((x4 ++ b'128) ++ r191) ++ b'89)), (9, vi 0)] rfl <| Z4m (K := k) (fun j E w201 => ∃ (h200 : Hp) (x204 : ByteArray) (x205 : Int) (xs206 : List Ar) (v207 : Value), (Zo j).ref03_stmt_l4 x1 x4 x204 x205 xs206 = some r ∧ E = [(1, .string x4), (2, pt b18 0), (8, .string x204), (9, vi x205)] ∧ Stp [] w0 h0 w201 h200 ∧ Hle h195 h200 ∧ RS h200 v207 xs206 ∧ OB w201 h200 b18 44 [vi x1.op, .string x1.name, v5, v7, v9, vi x1.n, v11, v207, v15, .bool x1.els]) ?_ ?_ (j := k) (Nat.le_refl _) ?_
  ·rintro E w201 ⟨_, _, _, _, _, HF, _⟩; cases HF
  ·rintro j210 hj212 IHL211 E w201 ⟨h200, x204, x205, xs206, v207, HF, rfl, S203, le202, rs208, ob209⟩
   refine Z04 (fun E w228 => ∃ (h227 : Hp), ref03_stmt_j5 j210 (Zo j210) x1 x4 x204 x205 xs206 = some r ∧ E = [(1, .string x4), (2, pt b18 0), (8, .string x204), (9, vi x205)] ∧ Stp [] w0 h0 w228 h227 ∧ Hle h200 h227 ∧ OB w228 h227 b18 44 [vi x1.op, .string x1.name, v5, v7, v9, vi x1.n, v11, v207, v15, .bool x1.els]) ?_ ?_
   ·rintro E w228 ⟨h227, HF, rfl, S230, le229, ob231⟩
    refine Za <| Z0c ?_
    obtain ⟨hl232, HF⟩ := Zj HF
    obtain ⟨hl233, HF⟩ := Zj HF
    obtain ⟨A234, c235, rfl, rs236⟩ := RS.form (rs208.mono (le229))
    obtain ⟨e237, he238, HF⟩ := Z6 HF
    obtain ⟨b239, o240, rfl, h242, h243, ra241⟩ := RS.atO rs236 he238
    obtain ⟨cs244, r245, hc246⟩ := ra241
    obtain ⟨v247, v249, v251, rfl, rs248, rs250, rs252⟩ := rp_Ar.1 r245
    obtain ⟨r253, hr254, HF⟩ := Z6 HF
    obtain ⟨hl255, HF⟩ := Zj HF
    obtain ⟨hl256, HF⟩ := Zj HF
    obtain ⟨e257, he258, HF⟩ := Z6 HF
    obtain ⟨b259, o260, hA, h262, h263, ra261⟩ := RS.atO rs236 he258
    obtain ⟨rfl, rfl⟩ := Z5m hA
    obtain ⟨cs264, r265, hc266⟩ := ra261
    obtain ⟨v267, v269, v271, rfl, rs268, rs270, rs272⟩ := rp_Ar.1 r265
    obtain ⟨hl273, HF⟩ := Zj HF
    obtain ⟨r274, hr275, HF⟩ := Z6 HF
    refine Z2z (m := 22) [(1, .string x4), (2, pt b18 0), (8, .string x204), (9, vi x205)] [1, 2, 8, 9] rfl (fun i v w h => match i with | 0 => v = .string x204 | 1 => v = .string x4 | 2 => v = .string (x204 ++ x4) | 3 => v = .string ((x204 ++ x4) ++ b'95) | 4 => v = pt b18 7 | 5 => v = sl b239 o240 (xs206).length c235 | 6 => v = vi x205 | 7 => v = pt b239 (o240 + Int.toNat x205 * 3) | 8 => v = pt b239 (o240 + Int.toNat x205 * 3 + 1) | 9 => v = v249 | 10 => v = .string r253 | 11 => v = .string (((x204 ++ x4) ++ b'95) ++ r253) | 12 => v = .string ((((x204 ++ x4) ++ b'95) ++ r253) ++ b'106) | 13 => v = pt b18 7 | 14 => v = sl b239 o240 (xs206).length c235 | 15 => v = vi x205 | 16 => v = pt b239 (o240 + Int.toNat x205 * 3) | 17 => v = pt b239 (o240 + Int.toNat x205 * 3 + 2) | 18 => v = v271 | 19 => v = .string x4 | 20 => v = .string (x4 ++ b'94) | 21 => v = .string r274 | _ => True) Z4c S230.sub rfl rfl rfl rfl rfl ?_ ?_ ?_
    ·intro i v w h w2 h2 hΦ hst
     match i, hΦ with
     | 0, hΦ | 1, hΦ | 2, hΦ | 3, hΦ | 4, hΦ | 5, hΦ | 6, hΦ | 7, hΦ | 8, hΦ | 9, hΦ | 10, hΦ | 11, hΦ | 12, hΦ | 13, hΦ | 14, hΦ | 15, hΦ | 16, hΦ | 17, hΦ | 18, hΦ | 19, hΦ | 20, hΦ | 21, hΦ => exact hΦ
     | i + 22, _ => exact trivial
    ·refine ⟨?_, ?_, ?_, ?_, ?_, ?_, ?_, ?_, ?_, ?_, ?_, ?_, ?_, ?_, ?_, ?_, ?_, ?_, ?_, ?_, ?_, ?_, trivial⟩
     ·intro a w276 h277 s278 hat hF
      exact Z4 hat rfl (Z0j rfl) s278.sub (by exact rfl)
     ·intro a w276 h277 s278 hat hF
      exact Z4 hat rfl (Z0j rfl) s278.sub (by exact rfl)
     ·intro a w276 h277 s278 hat hF
      exact Z4 (Z1 (Z1 hat (hF 0 120 rfl rfl)) (hF 1 121 rfl rfl)) rfl (Zs rfl rfl hl232) s278.sub (by exact rfl)
     ·intro a w276 h277 s278 hat hF
      exact Z4 (Z1 hat (hF 2 122 rfl rfl)) rfl (Zs rfl rfl hl233) s278.sub (by exact rfl)
     ·intro a w276 h277 s278 hat hF
      exact Z4 hat rfl (Z2 rfl Z2e) s278.sub (by exact rfl)
     ·intro a w276 h277 s278 hat hF
      have ob279 := (ob231.step0 s278)
      exact Z4 (Z1 hat (hF 4 124 rfl rfl)) rfl (Z8 rfl Z6z (OB.cell ob279 (j := 7) rfl)) s278.sub (by exact rfl)
     ·intro a w276 h277 s278 hat hF
      exact Z4 hat rfl (Z0j rfl) s278.sub (by exact rfl)
     ·intro a w276 h277 s278 hat hF
      exact Z4 (Z1 (Z1 hat (hF 5 125 rfl rfl)) (hF 6 126 rfl rfl)) rfl (Zk rfl rfl Z32 Z56 h242 h243) s278.sub (by exact rfl)
     ·intro a w276 h277 s278 hat hF
      exact Z4 (Z1 hat (hF 7 127 rfl rfl)) rfl (Z2 rfl Z49) s278.sub (by exact rfl)
     ·intro a w276 h277 s278 hat hF
      exact Z4 (Z1 hat (hF 8 128 rfl rfl)) rfl (Z8 rfl Z9g (s278.sub.at_ _ _ _ ((fun i v hv => (s278.le).1 _ _ _ (hc246 i v hv)) 1 _ rfl))) s278.sub (by exact rfl)
     ·intro a w276 h277 s278 hat hF
      refine Z0n (Z1 hat (hF 9 129 rfl rfl)) rfl (Zi (vs := [v249]) rfl t_ent_78) (ok_ref03_labels _ hr254 s278.sub (rs250.mono (s278.le))) ?_
      rintro _ w280 ⟨h281, s282, rfl⟩
      exact ⟨_, h281, rfl, s282, (by exact rfl)⟩
     ·intro a w276 h277 s278 hat hF
      exact Z4 (Z1 (Z1 hat (hF 3 123 rfl rfl)) (hF 10 130 rfl rfl)) rfl (Zs rfl rfl hl255) s278.sub (by exact rfl)
     ·intro a w276 h277 s278 hat hF
      exact Z4 (Z1 hat (hF 11 131 rfl rfl)) rfl (Zs rfl rfl hl256) s278.sub (by exact rfl)
     ·intro a w276 h277 s278 hat hF
      exact Z4 hat rfl (Z2 rfl Z2e) s278.sub (by exact rfl)
     ·intro a w276 h277 s278 hat hF
      have ob283 := (ob231.step0 s278)
      exact Z4 (Z1 hat (hF 13 133 rfl rfl)) rfl (Z8 rfl Z6z (OB.cell ob283 (j := 7) rfl)) s278.sub (by exact rfl)
     ·intro a w276 h277 s278 hat hF
      exact Z4 hat rfl (Z0j rfl) s278.sub (by exact rfl)
     ·intro a w276 h277 s278 hat hF
      exact Z4 (Z1 (Z1 hat (hF 14 134 rfl rfl)) (hF 15 135 rfl rfl)) rfl (Zk rfl rfl Z32 Z56 h262 h263) s278.sub (by exact rfl)
     ·intro a w276 h277 s278 hat hF
      exact Z4 (Z1 hat (hF 16 136 rfl rfl)) rfl (Z2 rfl Z99) s278.sub (by exact rfl)
     ·intro a w276 h277 s278 hat hF
      exact Z4 (Z1 hat (hF 17 137 rfl rfl)) rfl (Z8 rfl Z2r (s278.sub.at_ _ _ _ ((fun i v hv => (s278.le).1 _ _ _ (hc266 i v hv)) 2 _ rfl))) s278.sub (by exact rfl)
     ·intro a w276 h277 s278 hat hF
      exact Z4 hat rfl (Z0j rfl) s278.sub (by exact rfl)
     ·intro a w276 h277 s278 hat hF
      exact Z4 (Z1 hat (hF 19 139 rfl rfl)) rfl (Zs rfl rfl hl273) s278.sub (by exact rfl)
     intro a w276 h277 s278 hat hF
     refine Z0n (Z1 (Z1 hat (hF 18 138 rfl rfl)) (hF 20 140 rfl rfl)) rfl (Zi (vs := [v271, .string (x4 ++ b'94)]) rfl t_ent_24) ((IH _ (Nat.le_trans (Nat.le_of_succ_le hj212) (Nat.le_refl _))).2.1 hr275 s278.sub (rs272.mono (s278.le))) ?_
     rintro _ w284 ⟨h285, s286, rfl⟩
     exact ⟨_, h285, rfl, s286, (by exact rfl)⟩
    intro a w276 h277 s278 hat hF
    obtain hv0 := hF 0 120 (by decide) rfl
    obtain hv1 := hF 1 121 (by decide) rfl
    obtain hv2 := hF 2 122 (by decide) rfl
    obtain hv3 := hF 3 123 (by decide) rfl
    obtain hv4 := hF 4 124 (by decide) rfl
    obtain hv5 := hF 5 125 (by decide) rfl
    obtain hv6 := hF 6 126 (by decide) rfl
    obtain hv7 := hF 7 127 (by decide) rfl
    obtain hv8 := hF 8 128 (by decide) rfl
    obtain hv9 := hF 9 129 (by decide) rfl
    obtain hv10 := hF 10 130 (by decide) rfl
    obtain hv11 := hF 11 131 (by decide) rfl
    obtain hv12 := hF 12 132 (by decide) rfl
    obtain hv13 := hF 13 133 (by decide) rfl
    obtain hv14 := hF 14 134 (by decide) rfl
    obtain hv15 := hF 15 135 (by decide) rfl
    obtain hv16 := hF 16 136 (by decide) rfl
    obtain hv17 := hF 17 137 (by decide) rfl
    obtain hv18 := hF 18 138 (by decide) rfl
    obtain hv19 := hF 19 139 (by decide) rfl
    obtain hv20 := hF 20 140 (by decide) rfl
    obtain hv21 := hF 21 141 (by decide) rfl
    refine Z7u [(141, .string r274), (140, .string (x4 ++ b'94)), (139, .string x4), (138, v271), (137, pt b239 (o240 + Int.toNat x205 * 3 + 2)), (136, pt b239 (o240 + Int.toNat x205 * 3)), (135, vi x205), (134, sl b239 o240 (xs206).length c235), (133, pt b18 7), (132, .string ((((x204 ++ x4) ++ b'95) ++ r253) ++ b'106)), (131, .string (((x204 ++ x4) ++ b'95) ++ r253)), (130, .string r253), (129, v249), (128, pt b239 (o240 + Int.toNat x205 * 3 + 1)), (127, pt b239 (o240 + Int.toNat x205 * 3)), (126, vi x205), (125, sl b239 o240 (xs206).length c235), (124, pt b18 7), (123, .string ((x204 ++ x4) ++ b'95)), (122, .string (x204 ++ x4)), (121, .string x4), (120, .string x204), (1, .string x4), (2, pt b18 0), (8, .string x204), (9, vi x205)] (Z1 (Z1 (Z1 (Z1 (Z1 (Z1 (Z1 (Z1 (Z1 (Z1 (Z1 (Z1 (Z1 (Z1 (Z1 (Z1 (Z1 (Z1 (Z1 (Z1 (Z1 (Z1 hat hv0) hv1) hv2) hv3) hv4) hv5) hv6) hv7) hv8) hv9) hv10) hv11) hv12) hv13) hv14) hv15) hv16) hv17) hv18) hv19) hv20) hv21) ?_
    have S287 := S230.trans0 s278
    obtain ⟨hl288, HF⟩ := Zj HF
    refine Wv rfl (Zs rfl rfl hl288) <| Wa rfl rfl <| Z7 <| Zv <| Z5 <| Z0 <| Wm rfl rfl <| Wv rfl (Z2v rfl rfl) <| Wa rfl rfl <| Z7 ?_
    have ob290 := (ob231.step0 s278)
    refine Z2x <| Z8e [1, 2, 8, 9] [(1, .string x4), (2, pt b18 0), (8, .string (((((x204 ++ x4) ++ b'95) ++ r253) ++ b'106) ++ r274)), (9, vi (IntKind.i64.wrap (x205 + 1)))] rfl ?_
    exact IHL211 j210 (Nat.le_refl _) _ _ ⟨h277, ((((x204 ++ x4) ++ b'95) ++ r253) ++ b'106) ++ r274, IntKind.i64.wrap (x205 + 1), xs206, sl b239 o240 (xs206).length c235, HF, rfl, S287, (le202).trans ((le229).trans s278.le), (rs236.mono (s278.le)), ob290⟩
   intro J289
   refine Za <| Z0 <| Wm rfl rfl <| Wv rfl (Z2 rfl Z2e) <| Wv rfl (Z8 rfl Z6z (OB.cell ob209 (j := 7) rfl)) ?_
   obtain ⟨A213, c214, rfl, rs215⟩ := RS.form rs208
   refine Wv rfl (Z0v rfl Z32) <| Wv rfl (Z6q rfl rfl) <| Z7 <| Z5 <| Z12 HF rfl (fun HF => ?_) (fun HF => ?_)
   ·refine Zm <| Z06 [1, 2, 8, 9] _ rfl ?_
    exact J289 ⟨h200, HF, rfl, S203, Hle.refl _, ob209⟩
   refine Z4b <| Zr <| Zr <| Z0x <| Z5 <| Za <| Z0 <| Wm rfl rfl <| Wv rfl (Z0w (cs := [vi x1.op, .string x1.name, v5, v7, v9, vi x1.n, v11, .slice A213 (xs206).length c214, v15, .bool x1.els]) rfl Zb8 Z2g (OB.cells ob209 0 rfl)) <| Wm rfl rfl ?_
   obtain ⟨r217, hr218, HF⟩ := Z6 HF
   refine Wc rfl (Zi (vs := [.agg #[vi x1.op, .string x1.name, v5, v7, v9, vi x1.n, v11, .slice A213 (xs206).length c214, v15, .bool x1.els], .string x4]) rfl t_ent_77) ((IH _ (Nat.le_trans (Nat.le_of_succ_le hj212) (Nat.le_refl _))).2.2 hr218 S203.sub (rp_St.2 ⟨_, _, _, _, _, _, rfl, (rs6.mono ((s20.le).trans ((s196.le).trans le202))), (rs8.mono ((s20.le).trans ((s196.le).trans le202))), (rs10.mono ((s20.le).trans ((s196.le).trans le202))), (rs12.mono ((s20.le).trans ((s196.le).trans le202))), rs215, (rs16.mono ((s20.le).trans ((s196.le).trans le202)))⟩)) ?_
   rintro _ w220 ⟨h221, s222, rfl⟩
   have S223 := S203.trans0 s222
   obtain ⟨hl224, HF⟩ := Zj HF
   refine Wv rfl (Zs rfl rfl hl224) <| Wm rfl rfl ?_
   obtain ⟨hl225, HF⟩ := Zj HF
   refine Wv rfl (Zs rfl rfl hl225) ?_
   obtain ⟨hl226, HF⟩ := Zj HF
   refine Wv rfl (Zs rfl rfl hl226) <| Wa rfl rfl <| Z7 <| Z5 <| Z09 <| Z03 <| Zp <| Zt rfl rfl ?_
   obtain rfl := Option.some.inj HF
   exact ⟨_, rfl, h221, S223, rfl⟩
  have ob291 := (ob21.step0 s196)
  exact ⟨h195, ((x4 ++ b'128) ++ r191) ++ b'89, 0, x1.arms, v13, HF, rfl, S197, Hle.refl _, (rs14.mono ((s20.le).trans s196.le)), ob291⟩
 refine Za <| Z0 <| Wv rfl (Z0y rfl rfl) <| Wa rfl rfl <| Z7 <| Z5 <| Z12 HF rfl (fun HF => ?_) (fun HF => ?_)
 ·refine Za ?_
  obtain ⟨hl293, HF⟩ := Zj HF
  obtain ⟨hl294, HF⟩ := Zj HF
  obtain ⟨hl295, HF⟩ := Zj HF
  obtain ⟨A296, c297, rfl, rs298⟩ := RS.form (rs10.mono (s20.le))
  obtain ⟨e299, he300, HF⟩ := Z6 HF
  obtain ⟨b301, o302, rfl, h304, h305, ra303⟩ := RS.atO rs298 he300
  obtain ⟨cs306, r307, hc308⟩ := ra303
  obtain ⟨r309, hr310, HF⟩ := Z6 HF
  obtain ⟨hl311, HF⟩ := Zj HF
  obtain ⟨hl312, HF⟩ := Zj HF
  obtain ⟨e313, he314, HF⟩ := Z6 HF
  obtain ⟨b315, o316, hA, h318, h319, ra317⟩ := RS.atO rs298 he314
  obtain ⟨rfl, rfl⟩ := Z5m hA
  obtain ⟨cs320, r321, hc322⟩ := ra317
  obtain ⟨r323, hr324, HF⟩ := Z6 HF
  refine Z2z (m := 18) [(1, .string x4), (2, pt b18 0)] [1, 2] rfl (fun i v w h => match i with | 0 => v = .string x4 | 1 => v = .string (x4 ++ b'16) | 2 => v = pt b18 1 | 3 => v = .string x1.name | 4 => v = .string ((x4 ++ b'16) ++ x1.name) | 5 => v = .string (((x4 ++ b'16) ++ x1.name) ++ b'96) | 6 => v = pt b18 4 | 7 => v = sl b301 o302 (x1.args).length c297 | 8 => v = pt b301 (o302 + Int.toNat 0 * 6) | 9 => v = .agg cs306.toArray | 10 => v = .string r309 | 11 => v = .string ((((x4 ++ b'16) ++ x1.name) ++ b'96) ++ r309) | 12 => v = .string (((((x4 ++ b'16) ++ x1.name) ++ b'96) ++ r309) ++ b'93) | 13 => v = pt b18 4 | 14 => v = sl b301 o302 (x1.args).length c297 | 15 => v = pt b301 (o302 + Int.toNat 1 * 6) | 16 => v = .agg cs320.toArray | 17 => v = .string r323 | _ => True) Z4c S23.sub rfl rfl rfl rfl rfl ?_ ?_ ?_
  ·intro i v w h w2 h2 hΦ hst
   match i, hΦ with
   | 0, hΦ | 1, hΦ | 2, hΦ | 3, hΦ | 4, hΦ | 5, hΦ | 6, hΦ | 7, hΦ | 8, hΦ | 9, hΦ | 10, hΦ | 11, hΦ | 12, hΦ | 13, hΦ | 14, hΦ | 15, hΦ | 16, hΦ | 17, hΦ => exact hΦ
   | i + 18, _ => exact trivial
  ·refine ⟨?_, ?_, ?_, ?_, ?_, ?_, ?_, ?_, ?_, ?_, ?_, ?_, ?_, ?_, ?_, ?_, ?_, ?_, trivial⟩
   ·intro a w325 h326 s327 hat hF
    exact Z4 hat rfl (Z0j rfl) s327.sub (by exact rfl)
   ·intro a w325 h326 s327 hat hF
    exact Z4 (Z1 hat (hF 0 153 rfl rfl)) rfl (Zs rfl rfl hl293) s327.sub (by exact rfl)
   ·intro a w325 h326 s327 hat hF
    exact Z4 hat rfl (Z2 rfl Z62) s327.sub (by exact rfl)
   ·intro a w325 h326 s327 hat hF
    have ob328 := (ob21.step0 s327)
    exact Z4 (Z1 hat (hF 2 155 rfl rfl)) rfl (Z8 rfl Z3l (OB.cell ob328 (j := 1) rfl)) s327.sub (by exact rfl)
   ·intro a w325 h326 s327 hat hF
    exact Z4 (Z1 (Z1 hat (hF 1 154 rfl rfl)) (hF 3 156 rfl rfl)) rfl (Zs rfl rfl hl294) s327.sub (by exact rfl)
   ·intro a w325 h326 s327 hat hF
    exact Z4 (Z1 hat (hF 4 157 rfl rfl)) rfl (Zs rfl rfl hl295) s327.sub (by exact rfl)
   ·intro a w325 h326 s327 hat hF
    exact Z4 hat rfl (Z2 rfl Z1f) s327.sub (by exact rfl)
   ·intro a w325 h326 s327 hat hF
    have ob329 := (ob21.step0 s327)
    exact Z4 (Z1 hat (hF 6 159 rfl rfl)) rfl (Z8 rfl Z0h (OB.cell ob329 (j := 4) rfl)) s327.sub (by exact rfl)
   ·intro a w325 h326 s327 hat hF
    exact Z4 (Z1 hat (hF 7 160 rfl rfl)) rfl (Zk rfl rfl Zx Zu h304 h305) s327.sub (by exact rfl)
   ·intro a w325 h326 s327 hat hF
    exact Z4 (Z1 hat (hF 8 161 rfl rfl)) rfl (Z0w (cs := cs306) rfl Z1u (by rw [Rp.len (Rp.mono (s327.le) r307)]; exact Zu) (fun j v hv => s327.sub.at_ _ _ _ ((fun i v hv => (s327.le).1 _ _ _ (hc308 i v hv)) j v hv))) s327.sub (by exact rfl)
   ·intro a w325 h326 s327 hat hF
    refine Z0n (Z1 hat (hF 9 162 rfl rfl)) rfl (Zi (vs := [.agg cs306.toArray]) rfl t_ent_16) (ok_ref03_Expr _ hr310 s327.sub (Rp.mono (s327.le) r307)) ?_
    rintro _ w330 ⟨h331, s332, rfl⟩
    exact ⟨_, h331, rfl, s332, (by exact rfl)⟩
   ·intro a w325 h326 s327 hat hF
    exact Z4 (Z1 (Z1 hat (hF 5 158 rfl rfl)) (hF 10 163 rfl rfl)) rfl (Zs rfl rfl hl311) s327.sub (by exact rfl)
   ·intro a w325 h326 s327 hat hF
    exact Z4 (Z1 hat (hF 11 164 rfl rfl)) rfl (Zs rfl rfl hl312) s327.sub (by exact rfl)
   ·intro a w325 h326 s327 hat hF
    exact Z4 hat rfl (Z2 rfl Z1f) s327.sub (by exact rfl)
   ·intro a w325 h326 s327 hat hF
    have ob333 := (ob21.step0 s327)
    exact Z4 (Z1 hat (hF 13 166 rfl rfl)) rfl (Z8 rfl Z0h (OB.cell ob333 (j := 4) rfl)) s327.sub (by exact rfl)
   ·intro a w325 h326 s327 hat hF
    exact Z4 (Z1 hat (hF 14 167 rfl rfl)) rfl (Zk rfl rfl Zx Zu h318 h319) s327.sub (by exact rfl)
   ·intro a w325 h326 s327 hat hF
    exact Z4 (Z1 hat (hF 15 168 rfl rfl)) rfl (Z0w (cs := cs320) rfl Z1u (by rw [Rp.len (Rp.mono (s327.le) r321)]; exact Zu) (fun j v hv => s327.sub.at_ _ _ _ ((fun i v hv => (s327.le).1 _ _ _ (hc322 i v hv)) j v hv))) s327.sub (by exact rfl)
   intro a w325 h326 s327 hat hF
   refine Z0n (Z1 hat (hF 16 169 rfl rfl)) rfl (Zi (vs := [.agg cs320.toArray]) rfl t_ent_16) (ok_ref03_Expr _ hr324 s327.sub (Rp.mono (s327.le) r321)) ?_
   rintro _ w334 ⟨h335, s336, rfl⟩
   exact ⟨_, h335, rfl, s336, (by exact rfl)⟩
  intro a w325 h326 s327 hat hF
  obtain hv0 := hF 0 153 (by decide) rfl
  obtain hv1 := hF 1 154 (by decide) rfl
  obtain hv2 := hF 2 155 (by decide) rfl
  obtain hv3 := hF 3 156 (by decide) rfl
  obtain hv4 := hF 4 157 (by decide) rfl
  obtain hv5 := hF 5 158 (by decide) rfl
  obtain hv6 := hF 6 159 (by decide) rfl
  obtain hv7 := hF 7 160 (by decide) rfl
  obtain hv8 := hF 8 161 (by decide) rfl
  obtain hv9 := hF 9 162 (by decide) rfl
  obtain hv10 := hF 10 163 (by decide) rfl
  obtain hv11 := hF 11 164 (by decide) rfl
  obtain hv12 := hF 12 165 (by decide) rfl
  obtain hv13 := hF 13 166 (by decide) rfl
  obtain hv14 := hF 14 167 (by decide) rfl
  obtain hv15 := hF 15 168 (by decide) rfl
  obtain hv16 := hF 16 169 (by decide) rfl
  obtain hv17 := hF 17 170 (by decide) rfl
  refine Z7u [(170, .string r323), (169, .agg cs320.toArray), (168, pt b301 (o302 + Int.toNat 1 * 6)), (167, sl b301 o302 (x1.args).length c297), (166, pt b18 4), (165, .string (((((x4 ++ b'16) ++ x1.name) ++ b'96) ++ r309) ++ b'93)), (164, .string ((((x4 ++ b'16) ++ x1.name) ++ b'96) ++ r309)), (163, .string r309), (162, .agg cs306.toArray), (161, pt b301 (o302 + Int.toNat 0 * 6)), (160, sl b301 o302 (x1.args).length c297), (159, pt b18 4), (158, .string (((x4 ++ b'16) ++ x1.name) ++ b'96)), (157, .string ((x4 ++ b'16) ++ x1.name)), (156, .string x1.name), (155, pt b18 1), (154, .string (x4 ++ b'16)), (153, .string x4), (1, .string x4), (2, pt b18 0)] (Z1 (Z1 (Z1 (Z1 (Z1 (Z1 (Z1 (Z1 (Z1 (Z1 (Z1 (Z1 (Z1 (Z1 (Z1 (Z1 (Z1 (Z1 hat hv0) hv1) hv2) hv3) hv4) hv5) hv6) hv7) hv8) hv9) hv10) hv11) hv12) hv13) hv14) hv15) hv16) hv17) ?_
  have S337 := S23.trans0 s327
  obtain ⟨hl338, HF⟩ := Zj HF
  refine Wv rfl (Zs rfl rfl hl338) <| Wa rfl rfl <| Z7 <| Z5 <| Z04 (fun E w351 => ∃ (h350 : Hp) (x354 : ByteArray), Zdb k (Zo k) x1 x4 x354 = some r ∧ E = [(1, .string x4), (2, pt b18 0), (10, .string x354)] ∧ Stp [] w0 h0 w351 h350 ∧ Hle h326 h350 ∧ OB w351 h350 b18 44 [vi x1.op, .string x1.name, v5, v7, sl b301 o302 (x1.args).length c297, vi x1.n, v11, v13, v15, .bool x1.els]) ?_ ?_
  ·rintro E w351 ⟨h350, x354, HF, rfl, S353, le352, ob355⟩
   refine Za <| Z0 <| Wm rfl rfl ?_
   obtain ⟨hl356, HF⟩ := Zj HF
   refine Wv rfl (Zs rfl rfl hl356) <| Wv rfl (Z2 rfl Z48) <| Wv rfl (Z8 rfl Z2r (OB.cell ob355 (j := 6) rfl)) <| Wm rfl rfl ?_
   obtain ⟨hl357, HF⟩ := Zj HF
   refine Wv rfl (Zs rfl rfl hl357) ?_
   obtain ⟨r358, hr359, HF⟩ := Z6 HF
   refine Wc rfl (Zi (vs := [v11, .string (x4 ++ b'95)]) rfl t_ent_24) ((IH _ (Nat.le_refl _)).2.1 hr359 S353.sub (rs12.mono ((s20.le).trans ((s327.le).trans le352)))) ?_
   rintro _ w361 ⟨h362, s363, rfl⟩
   have S364 := S353.trans0 s363
   obtain ⟨hl365, HF⟩ := Zj HF
   refine Wv rfl (Zs rfl rfl hl365) <| Wm rfl rfl ?_
   obtain ⟨hl366, HF⟩ := Zj HF
   refine Wv rfl (Zs rfl rfl hl366) ?_
   obtain ⟨hl367, HF⟩ := Zj HF
   refine Wv rfl (Zs rfl rfl hl367) <| Wa rfl rfl <| Z7 <| Z5 <| Z09 <| Z03 <| Zp <| Zt rfl rfl ?_
   obtain rfl := Option.some.inj HF
   exact ⟨_, rfl, h362, S364, rfl⟩
  intro J368
  refine Za <| Z0 <| Wv rfl (Z2 rfl Z3s) ?_
  have ob339 := (ob21.step0 s327)
  refine Wv rfl (Z8 rfl Z0t (OB.cell ob339 (j := 5) rfl)) <| Wv rfl (ov_neq rfl rfl) <| Z7 <| Z5 <| Z12 HF rfl (fun HF => ?_) (fun HF => ?_)
  ·refine Z0 <| Wm rfl rfl ?_
   obtain ⟨hl341, HF⟩ := Zj HF
   refine Wv rfl (Zs rfl rfl hl341) <| Wv rfl (Z2 rfl Z3s) <| Wv rfl (Z8 rfl Z0t (OB.cell ob339 (j := 5) rfl)) ?_
   obtain ⟨r342, hr343, HF⟩ := Z6 HF
   refine Wc rfl (Zi (vs := [vi x1.n]) rfl t_ent_37) (Zbk _ hr343 S337.sub) ?_
   rintro _ w345 ⟨h346, s347, rfl⟩
   have S348 := S337.trans0 s347
   obtain ⟨hl349, HF⟩ := Zj HF
   refine Wv rfl (Zs rfl rfl hl349) <| Wa rfl rfl <| Z7 ?_
   have ob369 := (ob339.step0 s347)
   refine Z06 [1, 2, 10] _ rfl ?_
   exact J368 ⟨h346, (((((((x4 ++ b'16) ++ x1.name) ++ b'96) ++ r309) ++ b'93) ++ r323) ++ b'97) ++ r342, HF, rfl, S348, s347.le, ob369⟩
  refine Zm <| Z06 [1, 2, 10] _ rfl ?_
  exact J368 ⟨h326, (((((x4 ++ b'16) ++ x1.name) ++ b'96) ++ r309) ++ b'93) ++ r323, HF, rfl, S337, Hle.refl _, ob339⟩
 refine Za <| Z0 <| Wv rfl (Z0y rfl rfl) <| Wa rfl rfl <| Z7 <| Z5 <| Z12 HF rfl (fun HF => ?_) (fun HF => ?_)
 ·refine Za ?_
  obtain ⟨hl371, HF⟩ := Zj HF
  obtain ⟨r372, hr373, HF⟩ := Z6 HF
  obtain ⟨hl374, HF⟩ := Zj HF
  obtain ⟨hl375, HF⟩ := Zj HF
  obtain ⟨hl376, HF⟩ := Zj HF
  obtain ⟨r377, hr378, HF⟩ := Z6 HF
  obtain ⟨hl379, HF⟩ := Zj HF
  refine Z2z (m := 14) [(1, .string x4), (2, pt b18 0), (4, .string Z2c)] [1, 2, 4] rfl (fun i v w h => match i with | 0 => v = .string x4 | 1 => v = .string (x4 ++ b'82) | 2 => v = pt b18 4 | 3 => v = v9 | 4 => v = .string r372 | 5 => v = .string ((x4 ++ b'82) ++ r372) | 6 => v = .string (((x4 ++ b'82) ++ r372) ++ b'87) | 7 => v = pt b18 6 | 8 => v = v11 | 9 => v = .string x4 | 10 => v = .string (x4 ++ b'95) | 11 => v = .string r377 | 12 => v = .string ((((x4 ++ b'82) ++ r372) ++ b'87) ++ r377) | 13 => v = .string x4 | _ => True) Z4c S23.sub rfl rfl rfl rfl rfl ?_ ?_ ?_
  ·intro i v w h w2 h2 hΦ hst
   match i, hΦ with
   | 0, hΦ | 1, hΦ | 2, hΦ | 3, hΦ | 4, hΦ | 5, hΦ | 6, hΦ | 7, hΦ | 8, hΦ | 9, hΦ | 10, hΦ | 11, hΦ | 12, hΦ | 13, hΦ => exact hΦ
   | i + 14, _ => exact trivial
  ·refine ⟨?_, ?_, ?_, ?_, ?_, ?_, ?_, ?_, ?_, ?_, ?_, ?_, ?_, ?_, trivial⟩
   ·intro a w380 h381 s382 hat hF
    exact Z4 hat rfl (Z0j rfl) s382.sub (by exact rfl)
   ·intro a w380 h381 s382 hat hF
    exact Z4 (Z1 hat (hF 0 194 rfl rfl)) rfl (Zs rfl rfl hl371) s382.sub (by exact rfl)
   ·intro a w380 h381 s382 hat hF
    exact Z4 hat rfl (Z2 rfl Z1f) s382.sub (by exact rfl)
   ·intro a w380 h381 s382 hat hF
    have ob383 := (ob21.step0 s382)
    exact Z4 (Z1 hat (hF 2 196 rfl rfl)) rfl (Z8 rfl Z0h (OB.cell ob383 (j := 4) rfl)) s382.sub (by exact rfl)
   ·intro a w380 h381 s382 hat hF
    refine Z0n (Z1 hat (hF 3 197 rfl rfl)) rfl (Zi (vs := [v9]) rfl Zea) (Z6t _ hr373 s382.sub (rs10.mono ((s20.le).trans s382.le))) ?_
    rintro _ w384 ⟨h385, s386, rfl⟩
    exact ⟨_, h385, rfl, s386, (by exact rfl)⟩
   ·intro a w380 h381 s382 hat hF
    exact Z4 (Z1 (Z1 hat (hF 1 195 rfl rfl)) (hF 4 198 rfl rfl)) rfl (Zs rfl rfl hl374) s382.sub (by exact rfl)
   ·intro a w380 h381 s382 hat hF
    exact Z4 (Z1 hat (hF 5 199 rfl rfl)) rfl (Zs rfl rfl hl375) s382.sub (by exact rfl)
   ·intro a w380 h381 s382 hat hF
    exact Z4 hat rfl (Z2 rfl Z48) s382.sub (by exact rfl)
   ·intro a w380 h381 s382 hat hF
    have ob387 := (ob21.step0 s382)
    exact Z4 (Z1 hat (hF 7 201 rfl rfl)) rfl (Z8 rfl Z2r (OB.cell ob387 (j := 6) rfl)) s382.sub (by exact rfl)
   ·intro a w380 h381 s382 hat hF
    exact Z4 hat rfl (Z0j rfl) s382.sub (by exact rfl)
   ·intro a w380 h381 s382 hat hF
    exact Z4 (Z1 hat (hF 9 203 rfl rfl)) rfl (Zs rfl rfl hl376) s382.sub (by exact rfl)
   ·intro a w380 h381 s382 hat hF
    refine Z0n (Z1 (Z1 hat (hF 8 202 rfl rfl)) (hF 10 204 rfl rfl)) rfl (Zi (vs := [v11, .string (x4 ++ b'95)]) rfl t_ent_24) ((IH _ (Nat.le_refl _)).2.1 hr378 s382.sub (rs12.mono ((s20.le).trans s382.le))) ?_
    rintro _ w388 ⟨h389, s390, rfl⟩
    exact ⟨_, h389, rfl, s390, (by exact rfl)⟩
   ·intro a w380 h381 s382 hat hF
    exact Z4 (Z1 (Z1 hat (hF 6 200 rfl rfl)) (hF 11 205 rfl rfl)) rfl (Zs rfl rfl hl379) s382.sub (by exact rfl)
   intro a w380 h381 s382 hat hF
   exact Z4 hat rfl (Z0j rfl) s382.sub (by exact rfl)
  intro a w380 h381 s382 hat hF
  obtain hv0 := hF 0 194 (by decide) rfl
  obtain hv1 := hF 1 195 (by decide) rfl
  obtain hv2 := hF 2 196 (by decide) rfl
  obtain hv3 := hF 3 197 (by decide) rfl
  obtain hv4 := hF 4 198 (by decide) rfl
  obtain hv5 := hF 5 199 (by decide) rfl
  obtain hv6 := hF 6 200 (by decide) rfl
  obtain hv7 := hF 7 201 (by decide) rfl
  obtain hv8 := hF 8 202 (by decide) rfl
  obtain hv9 := hF 9 203 (by decide) rfl
  obtain hv10 := hF 10 204 (by decide) rfl
  obtain hv11 := hF 11 205 (by decide) rfl
  obtain hv12 := hF 12 206 (by decide) rfl
  obtain hv13 := hF 13 207 (by decide) rfl
  refine Z7u [(207, .string x4), (206, .string ((((x4 ++ b'82) ++ r372) ++ b'87) ++ r377)), (205, .string r377), (204, .string (x4 ++ b'95)), (203, .string x4), (202, v11), (201, pt b18 6), (200, .string (((x4 ++ b'82) ++ r372) ++ b'87)), (199, .string ((x4 ++ b'82) ++ r372)), (198, .string r372), (197, v9), (196, pt b18 4), (195, .string (x4 ++ b'82)), (194, .string x4), (1, .string x4), (2, pt b18 0), (4, .string Z2c)] (Z1 (Z1 (Z1 (Z1 (Z1 (Z1 (Z1 (Z1 (Z1 (Z1 (Z1 (Z1 (Z1 (Z1 hat hv0) hv1) hv2) hv3) hv4) hv5) hv6) hv7) hv8) hv9) hv10) hv11) hv12) hv13) ?_
  have S391 := S23.trans0 s382
  obtain ⟨hl392, HF⟩ := Zj HF
  refine Wv rfl (Zs rfl rfl hl392) ?_
  obtain ⟨hl393, HF⟩ := Zj HF
  refine Wv rfl (Zs rfl rfl hl393) <| Wa rfl rfl <| Z7 <| Z5 <| Z09 <| Z03 <| Zp <| Zt rfl rfl ?_
  obtain rfl := Option.some.inj HF
  exact ⟨_, rfl, h381, S391, rfl⟩
 refine Za <| Z0 <| Wv rfl (Z0y rfl rfl) <| Wa rfl rfl <| Z7 <| Z5 <| Z12 HF rfl (fun HF => ?_) (fun HF => ?_)
 ·refine Za ?_
  obtain ⟨hl395, HF⟩ := Zj HF
  obtain ⟨hl396, HF⟩ := Zj HF
  obtain ⟨r397, hr398, HF⟩ := Z6 HF
  obtain ⟨hl399, HF⟩ := Zj HF
  obtain ⟨hl400, HF⟩ := Zj HF
  obtain ⟨hl401, HF⟩ := Zj HF
  obtain ⟨r402, hr403, HF⟩ := Z6 HF
  obtain ⟨hl404, HF⟩ := Zj HF
  obtain ⟨hl405, HF⟩ := Zj HF
  refine Z2z (m := 17) [(1, .string x4), (2, pt b18 0), (4, .string Z2c)] [1, 2, 4] rfl (fun i v w h => match i with | 0 => v = .string x4 | 1 => v = .string (x4 ++ b'56) | 2 => v = pt b18 6 | 3 => v = v11 | 4 => v = .string x4 | 5 => v = .string (x4 ++ b'95) | 6 => v = .string r397 | 7 => v = .string ((x4 ++ b'56) ++ r397) | 8 => v = .string x4 | 9 => v = .string (((x4 ++ b'56) ++ r397) ++ x4) | 10 => v = .string ((((x4 ++ b'56) ++ r397) ++ x4) ++ b'79) | 11 => v = pt b18 4 | 12 => v = v9 | 13 => v = .string r402 | 14 => v = .string (((((x4 ++ b'56) ++ r397) ++ x4) ++ b'79) ++ r402) | 15 => v = .string ((((((x4 ++ b'56) ++ r397) ++ x4) ++ b'79) ++ r402) ++ b'45) | 16 => v = .string x4 | _ => True) Z4c S23.sub rfl rfl rfl rfl rfl ?_ ?_ ?_
  ·intro i v w h w2 h2 hΦ hst
   match i, hΦ with
   | 0, hΦ | 1, hΦ | 2, hΦ | 3, hΦ | 4, hΦ | 5, hΦ | 6, hΦ | 7, hΦ | 8, hΦ | 9, hΦ | 10, hΦ | 11, hΦ | 12, hΦ | 13, hΦ | 14, hΦ | 15, hΦ | 16, hΦ => exact hΦ
   | i + 17, _ => exact trivial
  ·refine ⟨?_, ?_, ?_, ?_, ?_, ?_, ?_, ?_, ?_, ?_, ?_, ?_, ?_, ?_, ?_, ?_, ?_, trivial⟩
   ·intro a w406 h407 s408 hat hF
    exact Z4 hat rfl (Z0j rfl) s408.sub (by exact rfl)
   ·intro a w406 h407 s408 hat hF
    exact Z4 (Z1 hat (hF 0 212 rfl rfl)) rfl (Zs rfl rfl hl395) s408.sub (by exact rfl)
   ·intro a w406 h407 s408 hat hF
    exact Z4 hat rfl (Z2 rfl Z48) s408.sub (by exact rfl)
   ·intro a w406 h407 s408 hat hF
    have ob409 := (ob21.step0 s408)
    exact Z4 (Z1 hat (hF 2 214 rfl rfl)) rfl (Z8 rfl Z2r (OB.cell ob409 (j := 6) rfl)) s408.sub (by exact rfl)
   ·intro a w406 h407 s408 hat hF
    exact Z4 hat rfl (Z0j rfl) s408.sub (by exact rfl)
   ·intro a w406 h407 s408 hat hF
    exact Z4 (Z1 hat (hF 4 216 rfl rfl)) rfl (Zs rfl rfl hl396) s408.sub (by exact rfl)
   ·intro a w406 h407 s408 hat hF
    refine Z0n (Z1 (Z1 hat (hF 3 215 rfl rfl)) (hF 5 217 rfl rfl)) rfl (Zi (vs := [v11, .string (x4 ++ b'95)]) rfl t_ent_24) ((IH _ (Nat.le_refl _)).2.1 hr398 s408.sub (rs12.mono ((s20.le).trans s408.le))) ?_
    rintro _ w410 ⟨h411, s412, rfl⟩
    exact ⟨_, h411, rfl, s412, (by exact rfl)⟩
   ·intro a w406 h407 s408 hat hF
    exact Z4 (Z1 (Z1 hat (hF 1 213 rfl rfl)) (hF 6 218 rfl rfl)) rfl (Zs rfl rfl hl399) s408.sub (by exact rfl)
   ·intro a w406 h407 s408 hat hF
    exact Z4 hat rfl (Z0j rfl) s408.sub (by exact rfl)
   ·intro a w406 h407 s408 hat hF
    exact Z4 (Z1 (Z1 hat (hF 7 219 rfl rfl)) (hF 8 220 rfl rfl)) rfl (Zs rfl rfl hl400) s408.sub (by exact rfl)
   ·intro a w406 h407 s408 hat hF
    exact Z4 (Z1 hat (hF 9 221 rfl rfl)) rfl (Zs rfl rfl hl401) s408.sub (by exact rfl)
   ·intro a w406 h407 s408 hat hF
    exact Z4 hat rfl (Z2 rfl Z1f) s408.sub (by exact rfl)
   ·intro a w406 h407 s408 hat hF
    have ob413 := (ob21.step0 s408)
    exact Z4 (Z1 hat (hF 11 223 rfl rfl)) rfl (Z8 rfl Z0h (OB.cell ob413 (j := 4) rfl)) s408.sub (by exact rfl)
   ·intro a w406 h407 s408 hat hF
    refine Z0n (Z1 hat (hF 12 224 rfl rfl)) rfl (Zi (vs := [v9]) rfl Zea) (Z6t _ hr403 s408.sub (rs10.mono ((s20.le).trans s408.le))) ?_
    rintro _ w414 ⟨h415, s416, rfl⟩
    exact ⟨_, h415, rfl, s416, (by exact rfl)⟩
   ·intro a w406 h407 s408 hat hF
    exact Z4 (Z1 (Z1 hat (hF 10 222 rfl rfl)) (hF 13 225 rfl rfl)) rfl (Zs rfl rfl hl404) s408.sub (by exact rfl)
   ·intro a w406 h407 s408 hat hF
    exact Z4 (Z1 hat (hF 14 226 rfl rfl)) rfl (Zs rfl rfl hl405) s408.sub (by exact rfl)
   intro a w406 h407 s408 hat hF
   exact Z4 hat rfl (Z0j rfl) s408.sub (by exact rfl)
  intro a w406 h407 s408 hat hF
  obtain hv0 := hF 0 212 (by decide) rfl
  obtain hv1 := hF 1 213 (by decide) rfl
  obtain hv2 := hF 2 214 (by decide) rfl
  obtain hv3 := hF 3 215 (by decide) rfl
  obtain hv4 := hF 4 216 (by decide) rfl
  obtain hv5 := hF 5 217 (by decide) rfl
  obtain hv6 := hF 6 218 (by decide) rfl
  obtain hv7 := hF 7 219 (by decide) rfl
  obtain hv8 := hF 8 220 (by decide) rfl
  obtain hv9 := hF 9 221 (by decide) rfl
  obtain hv10 := hF 10 222 (by decide) rfl
  obtain hv11 := hF 11 223 (by decide) rfl
  obtain hv12 := hF 12 224 (by decide) rfl
  obtain hv13 := hF 13 225 (by decide) rfl
  obtain hv14 := hF 14 226 (by decide) rfl
  obtain hv15 := hF 15 227 (by decide) rfl
  obtain hv16 := hF 16 228 (by decide) rfl
  refine Z7u [(228, .string x4), (227, .string ((((((x4 ++ b'56) ++ r397) ++ x4) ++ b'79) ++ r402) ++ b'45)), (226, .string (((((x4 ++ b'56) ++ r397) ++ x4) ++ b'79) ++ r402)), (225, .string r402), (224, v9), (223, pt b18 4), (222, .string ((((x4 ++ b'56) ++ r397) ++ x4) ++ b'79)), (221, .string (((x4 ++ b'56) ++ r397) ++ x4)), (220, .string x4), (219, .string ((x4 ++ b'56) ++ r397)), (218, .string r397), (217, .string (x4 ++ b'95)), (216, .string x4), (215, v11), (214, pt b18 6), (213, .string (x4 ++ b'56)), (212, .string x4), (1, .string x4), (2, pt b18 0), (4, .string Z2c)] (Z1 (Z1 (Z1 (Z1 (Z1 (Z1 (Z1 (Z1 (Z1 (Z1 (Z1 (Z1 (Z1 (Z1 (Z1 (Z1 (Z1 hat hv0) hv1) hv2) hv3) hv4) hv5) hv6) hv7) hv8) hv9) hv10) hv11) hv12) hv13) hv14) hv15) hv16) ?_
  have S417 := S23.trans0 s408
  obtain ⟨hl418, HF⟩ := Zj HF
  refine Wv rfl (Zs rfl rfl hl418) ?_
  obtain ⟨hl419, HF⟩ := Zj HF
  refine Wv rfl (Zs rfl rfl hl419) <| Wa rfl rfl <| Z7 <| Z5 <| Z09 <| Z03 <| Zp <| Zt rfl rfl ?_
  obtain rfl := Option.some.inj HF
  exact ⟨_, rfl, h407, S417, rfl⟩
 refine Za <| Z0 <| Wv rfl (Z0y rfl rfl) <| Wa rfl rfl <| Z7 <| Z5 <| Z12 HF rfl (fun HF => ?_) (fun HF => ?_)
 ·refine Za <| Z0 <| Wm rfl rfl ?_
  obtain ⟨hl421, HF⟩ := Zj HF
  refine Wv rfl (Zs rfl rfl hl421) <| Wa rfl rfl <| Z7 <| Z5 <| Z09 <| Z03 <| Zp <| Zt rfl rfl ?_
  obtain rfl := Option.some.inj HF
  exact ⟨_, rfl, h0, S23, rfl⟩
 refine Zm <| Zv <| Z06 [1] _ rfl ?_
 exact J427 ⟨h0, HF, rfl, S23, Hle.refl _⟩
theorem s_ref03_Stmts (k : Nat) (IH : ∀ j, j ≤ k → Zbb (Zo j).ref03_stmt ∧ Z9n (Zo j).ref03_Stmts ∧ Z9m (Zo j).ref03_other) : Z9n (m_ref03_Stmts k (Zo k)) := by
 intro xs1 x4 r HF w0 h0 v2 hs0 rs3
 have S0 : Stp [] w0 h0 w0 h0 := Stp.refl hs0 _
 refine Z66 (n := 22) Tryz.func24 rfl Tryz.ntmps24 rfl [(0, v2), (1, .string x4)] rfl <| Za <| Z0 <| Wa rfl rfl <| Z7 <| Z5 <| Za <| Z0 <| Wa rfl rfl <| Z7 <| Z5 <| Za <| Za <| Z0 <| Wa rfl rfl <| Z7 <| Z5 <| Z0c <| Z4j <| Z8e [0, 1, 5, 6] [(0, v2), (1, .string x4), (5, .string Z2c), (6, vi 0)] rfl <| Z4m (K := k) (fun j E w6 => ∃ (h5 : Hp) (x9 : ByteArray) (x10 : Int), (Zo j).ref03_Stmts_l1 xs1 x4 x9 x10 = some r ∧ E = [(0, v2), (1, .string x4), (5, .string x9), (6, vi x10)] ∧ Stp [] w0 h0 w6 h5 ∧ Hle h0 h5) ?_ ?_ (j := k) (Nat.le_refl _) ?_
 ·rintro E w6 ⟨_, _, _, HF, _⟩; cases HF
 ·rintro j11 hj13 IHL12 E w6 ⟨h5, x9, x10, HF, rfl, S8, le7⟩
  refine Z04 (fun E w19 => ∃ (h18 : Hp), Zf0 j11 (Zo j11) xs1 x4 x9 x10 = some r ∧ E = [(0, v2), (1, .string x4), (5, .string x9), (6, vi x10)] ∧ Stp [] w0 h0 w19 h18 ∧ Hle h5 h18) ?_ ?_
  ·rintro E w19 ⟨h18, HF, rfl, S21, le20⟩
   refine Za <| Z0c <| Z0 <| Wm rfl rfl <| Wm rfl rfl <| Wm rfl rfl ?_
   obtain ⟨A22, c23, rfl, rs24⟩ := RS.form (rs3.mono ((le7).trans le20))
   obtain ⟨e25, he26, HF⟩ := Z6 HF
   obtain ⟨b27, o28, rfl, h30, h31, ra29⟩ := RS.atO rs24 he26
   obtain ⟨cs32, r33, hc34⟩ := ra29
   refine Wv rfl (Zk rfl rfl Z1e Z2g h30 h31) <| Wv rfl (Z0w (cs := cs32) rfl Zb8 (by rw [Rp.len r33]; exact Z2g) (fun j v hv => S21.sub.at_ _ _ _ (hc34 j v hv))) <| Wm rfl rfl ?_
   obtain ⟨r35, hr36, HF⟩ := Z6 HF
   refine Wc rfl (Zi (vs := [.agg cs32.toArray, .string x4]) rfl t_ent_53) ((IH _ (Nat.le_trans (Nat.le_of_succ_le hj13) (Nat.le_refl _))).1 hr36 S21.sub r33) ?_
   rintro _ w38 ⟨h39, s40, rfl⟩
   have S41 := S21.trans0 s40
   obtain ⟨hl42, HF⟩ := Zj HF
   refine Wv rfl (Zs rfl rfl hl42) <| Wa rfl rfl <| Z7 <| Zv <| Z5 <| Z0 <| Wm rfl rfl <| Wv rfl (Z2v rfl rfl) <| Wa rfl rfl <| Z7 <| Z2x <| Z8e [0, 1, 5, 6] [(0, sl b27 o28 (xs1).length c23), (1, .string x4), (5, .string (x9 ++ r35)), (6, vi (IntKind.i64.wrap (x10 + 1)))] rfl ?_
   exact IHL12 j11 (Nat.le_refl _) _ _ ⟨h39, x9 ++ r35, IntKind.i64.wrap (x10 + 1), HF, rfl, S41, (le7).trans ((le20).trans s40.le)⟩
  intro J43
  refine Za <| Z0 <| Wm rfl rfl <| Wm rfl rfl ?_
  obtain ⟨A14, c15, rfl, rs16⟩ := RS.form (rs3.mono (le7))
  refine Wv rfl (Z0v rfl Z1e) <| Wv rfl (Z6q rfl rfl) <| Z7 <| Z5 <| Z12 HF rfl (fun HF => ?_) (fun HF => ?_)
  ·refine Zm <| Z06 [0, 1, 5, 6] _ rfl ?_
   exact J43 ⟨h5, HF, rfl, S8, Hle.refl _⟩
  refine Z4b <| Zr <| Zr <| Z0x <| Z5 <| Za <| Z0 <| Wm rfl rfl <| Wa rfl rfl <| Z7 <| Z5 <| Z09 <| Zt rfl rfl ?_
  obtain rfl := Option.some.inj HF
  exact ⟨_, rfl, h5, S8, rfl⟩
 exact ⟨h0, Z2c, 0, HF, rfl, S0, Hle.refl _⟩
theorem s_ref03_other (k : Nat) (IH : ∀ j, j ≤ k → Zbb (Zo j).ref03_stmt ∧ Z9n (Zo j).ref03_Stmts ∧ Z9m (Zo j).ref03_other) : Z9m (Zbw k (Zo k)) := by
 intro x1 x4 r HF w0 h0 cs2 hs0 r3
 have S0 : Stp [] w0 h0 w0 h0 := Stp.refl hs0 _
 refine Z66 (n := 16) Tryz.func77 rfl Tryz.ntmps77 rfl [(0, .agg cs2.toArray), (1, .string x4)] rfl <| Za <| Z0 ?_
 obtain ⟨v5, v7, v9, v11, v13, v15, rfl, rs6, rs8, rs10, rs12, rs14, rs16⟩ := rp_St.1 r3
 refine Zd2 (cs := [vi x1.op, .string x1.name, v5, v7, v9, vi x1.n, v11, v13, v15, .bool x1.els]) rfl rfl rfl rfl S0.sub (fun w17 b18 hb19 s20 ob21 => ?_)
 have g22 : w0.heap.size ≤ b18 := by rw [hb19]; exact S0.size
 have S23 := S0.trans0 s20
 refine Wa rfl rfl <| Z7 <| Z5 <| Z04 (fun E w26 => ∃ (h25 : Hp), Ze7 k (Zo k) x1 x4 = some r ∧ E = [(1, .string x4), (2, pt b18 0)] ∧ Stp [] w0 h0 w26 h25 ∧ Hle h0 h25 ∧ OB w26 h25 b18 44 [vi x1.op, .string x1.name, v5, v7, v9, vi x1.n, v11, v13, v15, .bool x1.els]) ?_ ?_
 ·rintro E w26 ⟨h25, HF, rfl, S28, le27, ob29⟩
  refine Za <| Z0 <| Wm rfl rfl ?_
  obtain ⟨hl30, HF⟩ := Zj HF
  refine Wv rfl (Zs rfl rfl hl30) <| Wv rfl (Z2 rfl Z3f) <| Wv rfl (Z8 rfl Z2r (OB.cell ob29 (j := 8) rfl)) <| Wm rfl rfl ?_
  obtain ⟨hl31, HF⟩ := Zj HF
  refine Wv rfl (Zs rfl rfl hl31) ?_
  obtain ⟨r32, hr33, HF⟩ := Z6 HF
  refine Wc rfl (Zi (vs := [v15, .string (x4 ++ b'95)]) rfl t_ent_24) ((IH _ (Nat.le_refl _)).2.1 hr33 S28.sub (rs16.mono ((s20.le).trans le27))) ?_
  rintro _ w35 ⟨h36, s37, rfl⟩
  have S38 := S28.trans0 s37
  obtain ⟨hl39, HF⟩ := Zj HF
  refine Wv rfl (Zs rfl rfl hl39) <| Wa rfl rfl <| Z7 <| Z5 <| Z09 <| Zt rfl rfl ?_
  obtain rfl := Option.some.inj HF
  exact ⟨_, rfl, h36, S38, rfl⟩
 intro J40
 refine Za <| Z0 <| Wv rfl (Z2 rfl Z33) <| Wv rfl (Z8 rfl Z65 (OB.cell ob21 (j := 9) rfl)) <| Wv rfl (Z4o rfl) <| Z7 <| Z5 <| Z12 HF rfl (fun HF => ?_) (fun HF => ?_)
 ·refine Za <| Z0 <| Wa rfl rfl <| Z7 <| Z5 <| Z09 <| Zp <| Zt rfl rfl ?_
  obtain rfl := Option.some.inj HF
  exact ⟨_, rfl, h0, S23, rfl⟩
 refine Zm <| Z06 [1, 2] _ rfl ?_
 exact J40 ⟨h0, HF, rfl, S23, Hle.refl _, ob21⟩
theorem Zf2 : ∀ k j, j ≤ k → Zbb (Zo j).ref03_stmt ∧ Z9n (Zo j).ref03_Stmts ∧ Z9m (Zo j).ref03_other := by
  intro k
  induction k with
  | zero =>
    intro j hj
    obtain rfl : j = 0 := by omega
    exact ⟨(fun _ _ _ => by intro h; cases h), (fun _ _ _ => by intro h; cases h), (fun _ _ _ => by intro h; cases h)⟩
  | succ k ih =>
    intro j hj
    by_cases h : j ≤ k
    · exact ih j h
    · obtain rfl : j = k + 1 := by omega
      exact ⟨s_ref03_stmt k ih, s_ref03_Stmts k ih, s_ref03_other k ih⟩
theorem ok_ref03_stmt (k : Nat) : Zbb (F_ref03_stmt k) := (Zf2 k k (Nat.le_refl _)).1
theorem ok_ref03_Stmts (k : Nat) : Z9n (Zdd k) := (Zf2 k k (Nat.le_refl _)).2.1
theorem ok_ref03_other (k : Nat) : Z9m (F_ref03_other k) := (Zf2 k k (Nat.le_refl _)).2.2

def C_ref03_Text (φ : (List St) → Option ByteArray) : Prop := ∀ ⦃xs1 : List St⦄ ⦃r : ByteArray⦄, φ xs1 = some r → ∀ ⦃w0 : World⦄ ⦃h0 : Hp⦄ ⦃v2 : Value⦄, Sub h0 w0 → RS h0 v2 xs1 →
  Calls Tryz.prog 11 #[v2] w0 fun e w1 => ∃ v, e = .returned v ∧ ∃ h1, Stp [] w0 h0 w1 h1 ∧ v = .string r
theorem s_ref03_Text (k : Nat) : C_ref03_Text (Z9i k) := by
 intro xs1 r HF w0 h0 v2 hs0 rs3
 have S0 : Stp [] w0 h0 w0 h0 := Stp.refl hs0 _
 refine Z66 (n := 5) Tryz.func11 rfl Tryz.ntmps11 rfl [(0, v2)] rfl <| Za <| Z0 <| Wa rfl rfl <| Z7 <| Z5 <| Za <| Z0 <| Wm rfl rfl ?_
 obtain ⟨r4, hr5, HF⟩ := Z6 HF
 refine Wc rfl (Zi (vs := [v2, .string Z2c]) rfl t_ent_24) (ok_ref03_Stmts _ hr5 S0.sub rs3) ?_
 rintro _ w7 ⟨h8, s9, rfl⟩
 have S10 := S0.trans0 s9
 refine Wa rfl rfl <| Z7 <| Z5 <| Z09 <| Zt rfl rfl ?_
 obtain rfl := Option.some.inj HF
 exact ⟨_, rfl, h8, S10, rfl⟩
theorem ok_ref03_Text (k : Nat) : C_ref03_Text (Z9i k) := s_ref03_Text k

def C_ref03_Short (φ : (List St) → Option ByteArray) : Prop := ∀ ⦃xs1 : List St⦄ ⦃r : ByteArray⦄, φ xs1 = some r → ∀ ⦃w0 : World⦄ ⦃h0 : Hp⦄ ⦃v2 : Value⦄, Sub h0 w0 → RS h0 v2 xs1 →
  Calls Tryz.prog 12 #[v2] w0 fun e w1 => ∃ v, e = .returned v ∧ ∃ h1, Stp [] w0 h0 w1 h1 ∧ v = .string r
theorem s_ref03_Short (k : Nat) : C_ref03_Short (Zdg k) := by
 intro xs1 r HF w0 h0 v2 hs0 rs3
 have S0 : Stp [] w0 h0 w0 h0 := Stp.refl hs0 _
 refine Z66 (n := 6) Tryz.func12 rfl Tryz.ntmps12 rfl [(0, v2)] rfl <| Za <| Z0 <| Wa rfl rfl <| Z7 <| Z5 <| Za <| Z0 <| Wm rfl rfl ?_
 obtain ⟨r4, hr5, HF⟩ := Z6 HF
 refine Wc rfl (Zi (vs := [v2]) rfl t_ent_11) (ok_ref03_Text _ hr5 S0.sub rs3) ?_
 rintro _ w7 ⟨h8, s9, rfl⟩
 have S10 := S0.trans0 s9
 obtain ⟨r11, hr12, HF⟩ := Z6 HF
 refine Wc rfl (Zi (vs := [.string r4]) rfl t_ent_25) (ok_ref03_Joined _ hr12 S10.sub) ?_
 rintro _ w14 ⟨h15, s16, rfl⟩
 have S17 := S10.trans0 s16
 refine Wa rfl rfl <| Z7 <| Z5 <| Z09 <| Zt rfl rfl ?_
 obtain rfl := Option.some.inj HF
 exact ⟨_, rfl, h15, S17, rfl⟩
theorem ok_ref03_Short (k : Nat) : C_ref03_Short (Zdg k) := s_ref03_Short k

def Zf9 (φ : Int → Int → Bool → Int → Option (Int × Int × Bool)) : Prop := ∀ ⦃x3 : Int⦄ ⦃x4 : Int⦄ ⦃x5 : Bool⦄ ⦃x7 : Int⦄ ⦃r : Int × Int × Bool⦄, φ x3 x4 x5 x7 = some r → ∀ ⦃w0 : World⦄ ⦃h0 : Hp⦄ ⦃b1 : Nat⦄ ⦃T2 : Nat⦄, Sub h0 w0 → OB w0 h0 b1 T2 [.int .i64 x3, .int .i64 x4, .bool x5] →
  Calls Tryz.prog 58 #[.pointer (some ⟨b1, 0, none⟩), .int .i64 x7] w0 fun e w1 => ∃ v, e = .returned v ∧ ∃ h1, Stp [b1] w0 h0 w1 h1 ∧ v = .tuple #[] ∧ (OB w1 h1 b1 T2 [.int .i64 r.1, .int .i64 r.2.1, .bool r.2.2])
theorem s_ref02_Size_Node (k : Nat) : Zf9 (Z4z k) := by
 intro x3 x4 x5 x7 r HF w0 h0 b1 T2 hs0 ob6
 have S0 : Stp [b1] w0 h0 w0 h0 := Stp.refl hs0 _
 have lt8 : b1 < w0.heap.size := OB.lt ob6
 refine Z66 (n := 32) Tryz.func58 rfl Tryz.ntmps58 rfl [(0, pt b1 0), (1, vi x7)] rfl <| Za <| Z0 <| Wm rfl rfl <| Wv rfl (Z02 rfl) <| Wv rfl (Z2 rfl t_field_60_0) <| Wv rfl (Z8 rfl Z0t (OB.cell ob6 (j := 0) rfl)) <| Wv rfl (Z2v rfl rfl) <| Wv rfl (Z02 rfl) <| Wv rfl (Z2 rfl t_field_60_0) <| Z5i (vs := [vi (IntKind.i64.wrap (x3 + 1))]) rfl rfl rfl rfl Zeb (Z0d rfl Z76) ob6 S0.sub (by simp) (ds := [vi (IntKind.i64.wrap (x3 + 1)), vi x4, .bool x5]) rfl (fun w9 s10 ob11 => ?_)
 have S12 := S0.trans1 s10 (.inl (by simp))
 refine Z7 <| Z5 <| Za <| Z0 <| Wm rfl rfl <| Wm rfl rfl <| Wv rfl (Z02 rfl) <| Wv rfl (Z2 rfl t_field_60_1) <| Wv rfl (Z8 rfl Z0t (OB.cell ob11 (j := 1) rfl)) <| Wm rfl rfl <| Wv rfl (ov_max rfl rfl) <| Wv rfl (Z02 rfl) <| Wv rfl (Z2 rfl t_field_60_1) <| Z5i (vs := [vi (imax x4 x7)]) rfl rfl rfl rfl Zeb (Z0d rfl Z76) ob11 S12.sub (by simp) (ds := [vi (IntKind.i64.wrap (x3 + 1)), vi (imax x4 x7), .bool x5]) rfl (fun w13 s14 ob15 => ?_)
 have S16 := S12.trans1 s14 (.inl (by simp))
 refine Z7 <| Z5 <| Z04 (fun E w19 => ∃ (h18 : Hp) (x22 : Bool), Z8s k x3 x4 x5 x7 x22 = some r ∧ E = [(0, pt b1 0), (28, .bool x22)] ∧ Stp [b1] w0 h0 w19 h18 ∧ Hle h0 h18 ∧ OB w19 h18 b1 T2 [vi (IntKind.i64.wrap (x3 + 1)), vi (imax x4 x7), .bool x5]) ?_ ?_
 ·rintro E w19 ⟨h18, x22, HF, rfl, S21, le20, ob23⟩
  refine Z12 HF rfl (fun HF => ?_) (fun HF => ?_)
  ·refine Z0 <| Wm rfl rfl <| Wv rfl (Z02 rfl) <| Wv rfl (Z2 rfl Z5z) <| Z5i (vs := [.bool true]) rfl rfl rfl rfl t_size_4 (Z0d rfl Z76) ob23 S21.sub (by simp) (ds := [vi (IntKind.i64.wrap (x3 + 1)), vi (imax x4 x7), .bool true]) rfl (fun w25 s26 ob27 => ?_)
   have S28 := S21.trans1 s26 (.inl (by simp))
   refine Z7 <| Z5v rfl ?_
   obtain rfl := Option.some.inj HF
   exact ⟨_, rfl, h18, S28, rfl, ob27⟩
  refine Zm <| Z5v rfl ?_
  obtain rfl := Option.some.inj HF
  exact ⟨_, rfl, h18, S21, rfl, ob23⟩
 intro J29
 refine Z0 <| Wm rfl rfl <| Wv rfl (Z02 rfl) <| Wv rfl (Z2 rfl t_field_60_0) <| Wv rfl (Z8 rfl Z0t (OB.cell ob15 (j := 0) rfl)) <| Wv rfl (Zao rfl rfl) <| Wm rfl rfl <| Z2m 25 HF rfl (fun HF => ?_) (fun HF => ?_)
 ·refine Wp rfl <| Wp rfl <| Wv rfl (Zh rfl rfl) <| Z7 <| Z06 [0, 28] _ rfl ?_
  exact J29 ⟨h0, true, HF, rfl, S16, Hle.refl _, ob15⟩
 refine Wm rfl rfl <| Wv rfl (Zao rfl rfl) <| Wv rfl (Zf rfl rfl) <| Z7 <| Z06 [0, 28] _ rfl ?_
 exact J29 ⟨h0, decide ((14 : Int) < x7), HF, rfl, S16, Hle.refl _, ob15⟩
theorem Zb4 (k : Nat) : Zf9 (Z4z k) := s_ref02_Size_Node k

def C_ref02_label (φ : Int → Option Bool) : Prop := ∀ ⦃x1 : Int⦄ ⦃r : Bool⦄, φ x1 = some r → ∀ ⦃w0 : World⦄ ⦃h0 : Hp⦄, Sub h0 w0 →
  Calls Tryz.prog 98 #[.int .i64 x1] w0 fun e w1 => ∃ v, e = .returned v ∧ ∃ h1, Stp [] w0 h0 w1 h1 ∧ v = .bool r
theorem s_ref02_label (k : Nat) : C_ref02_label (Z9q k) := by
 intro x1 r HF w0 h0  hs0 
 have S0 : Stp [] w0 h0 w0 h0 := Stp.refl hs0 _
 refine Z66 (n := 9) Tryz.func98 rfl Tryz.ntmps98 rfl [(0, vi x1)] rfl <| Za <| Z0 <| Wa rfl rfl <| Z7 <| Z5 <| Za <| Z0 <| Wm rfl rfl <| Wv rfl (ov_geq rfl rfl) <| Wm rfl rfl <| Z2m 5 HF rfl (fun HF => ?_) (fun HF => ?_)
 ·refine Wm rfl rfl <| Wv rfl (Zdo rfl rfl) <| Wv rfl (Zh rfl rfl) <| Wa rfl rfl <| Z7 <| Z5 <| Z09 <| Zt rfl rfl ?_
  obtain rfl := Option.some.inj HF
  exact ⟨_, rfl, h0, S0, rfl⟩
 refine Wp rfl <| Wp rfl <| Wv rfl (Zf rfl rfl) <| Wa rfl rfl <| Z7 <| Z5 <| Z09 <| Zt rfl rfl ?_
 obtain rfl := Option.some.inj HF
 exact ⟨_, rfl, h0, S0, rfl⟩
theorem ok_ref02_label (k : Nat) : C_ref02_label (Z9q k) := s_ref02_label k

def Zdy (φ : Int → Int → Bool → Bool → Option Bool) : Prop := ∀ ⦃x3 : Int⦄ ⦃x4 : Int⦄ ⦃x5 : Bool⦄ ⦃x7 : Bool⦄ ⦃r : Bool⦄, φ x3 x4 x5 x7 = some r → ∀ ⦃w0 : World⦄ ⦃h0 : Hp⦄ ⦃b1 : Nat⦄ ⦃T2 : Nat⦄, Sub h0 w0 → OB w0 h0 b1 T2 [.int .i64 x3, .int .i64 x4, .bool x5] →
  Calls Tryz.prog 59 #[.pointer (some ⟨b1, 0, none⟩), .bool x7] w0 fun e w1 => ∃ v, e = .returned v ∧ ∃ h1, Stp [b1] w0 h0 w1 h1 ∧ v = .tuple #[] ∧ (OB w1 h1 b1 T2 [.int .i64 x3, .int .i64 x4, .bool r])
theorem s_ref02_Size_Right (k : Nat) : Zdy (Zc k) := by
 intro x3 x4 x5 x7 r HF w0 h0 b1 T2 hs0 ob6
 have S0 : Stp [b1] w0 h0 w0 h0 := Stp.refl hs0 _
 have lt8 : b1 < w0.heap.size := OB.lt ob6
 refine Z66 (n := 9) Tryz.func59 rfl Tryz.ntmps59 rfl [(0, pt b1 0), (1, .bool x7)] rfl <| Za <| Z0 <| Wm rfl rfl <| Wv rfl (Z4o rfl) <| Z7 <| Z5 <| Z12 HF rfl (fun HF => ?_) (fun HF => ?_)
 ·refine Z0 <| Wm rfl rfl <| Wv rfl (Z02 rfl) <| Wv rfl (Z2 rfl Z5z) <| Z5i (vs := [.bool true]) rfl rfl rfl rfl t_size_4 (Z0d rfl Z76) ob6 S0.sub (by simp) (ds := [vi x3, vi x4, .bool true]) rfl (fun w10 s11 ob12 => ?_)
  have S13 := S0.trans1 s11 (.inl (by simp))
  refine Z7 <| Z5v rfl ?_
  obtain rfl := Option.some.inj HF
  exact ⟨_, rfl, h0, S13, rfl, ob12⟩
 refine Zm <| Z5v rfl ?_
 obtain rfl := Option.some.inj HF
 exact ⟨_, rfl, h0, S0, rfl, ob6⟩
theorem Zb (k : Nat) : Zdy (Zc k) := s_ref02_Size_Right k

def C_ref01_digit (φ : Int → Option Bool) : Prop := ∀ ⦃x1 : Int⦄ ⦃r : Bool⦄, φ x1 = some r → ∀ ⦃w0 : World⦄ ⦃h0 : Hp⦄, Sub h0 w0 →
  Calls Tryz.prog 83 #[.int .u8 x1] w0 fun e w1 => ∃ v, e = .returned v ∧ ∃ h1, Stp [] w0 h0 w1 h1 ∧ v = .bool r
theorem s_ref01_digit (k : Nat) : C_ref01_digit (Zd8 k) := by
 intro x1 r HF w0 h0  hs0 
 have S0 : Stp [] w0 h0 w0 h0 := Stp.refl hs0 _
 refine Z66 (n := 9) Tryz.func83 rfl Tryz.ntmps83 rfl [(0, .int .u8 x1)] rfl <| Za <| Z0 <| Wa rfl rfl <| Z7 <| Z5 <| Za <| Z0 <| Wm rfl rfl <| Wv rfl (ov_geq rfl rfl) <| Wm rfl rfl <| Z2m 5 HF rfl (fun HF => ?_) (fun HF => ?_)
 ·refine Wm rfl rfl <| Wv rfl (Zdo rfl rfl) <| Wv rfl (Zh rfl rfl) <| Wa rfl rfl <| Z7 <| Z5 <| Z09 <| Zt rfl rfl ?_
  obtain rfl := Option.some.inj HF
  exact ⟨_, rfl, h0, S0, rfl⟩
 refine Wp rfl <| Wp rfl <| Wv rfl (Zf rfl rfl) <| Wa rfl rfl <| Z7 <| Z5 <| Z09 <| Zt rfl rfl ?_
 obtain rfl := Option.some.inj HF
 exact ⟨_, rfl, h0, S0, rfl⟩
theorem ok_ref01_digit (k : Nat) : C_ref01_digit (Zd8 k) := s_ref01_digit k

def C_ref01_letter (φ : Int → Option Bool) : Prop := ∀ ⦃x1 : Int⦄ ⦃r : Bool⦄, φ x1 = some r → ∀ ⦃w0 : World⦄ ⦃h0 : Hp⦄, Sub h0 w0 →
  Calls Tryz.prog 82 #[.int .u8 x1] w0 fun e w1 => ∃ v, e = .returned v ∧ ∃ h1, Stp [] w0 h0 w1 h1 ∧ v = .bool r
theorem s_ref01_letter (k : Nat) : C_ref01_letter (Zcg k) := by
 intro x1 r HF w0 h0  hs0 
 have S0 : Stp [] w0 h0 w0 h0 := Stp.refl hs0 _
 refine Z66 (n := 9) Tryz.func82 rfl Tryz.ntmps82 rfl [(0, .int .u8 x1)] rfl <| Za <| Z0 <| Wa rfl rfl <| Z7 <| Z5 <| Za <| Z0 <| Wm rfl rfl <| Wv rfl (ov_geq rfl rfl) <| Wm rfl rfl <| Z2m 5 HF rfl (fun HF => ?_) (fun HF => ?_)
 ·refine Wm rfl rfl <| Wv rfl (Zdo rfl rfl) <| Wv rfl (Zh rfl rfl) <| Wa rfl rfl <| Z7 <| Z5 <| Z09 <| Zt rfl rfl ?_
  obtain rfl := Option.some.inj HF
  exact ⟨_, rfl, h0, S0, rfl⟩
 refine Wp rfl <| Wp rfl <| Wv rfl (Zf rfl rfl) <| Wa rfl rfl <| Z7 <| Z5 <| Z09 <| Zt rfl rfl ?_
 obtain rfl := Option.some.inj HF
 exact ⟨_, rfl, h0, S0, rfl⟩
theorem ok_ref01_letter (k : Nat) : C_ref01_letter (Zcg k) := s_ref01_letter k

def C_ref01_Words (φ : Option (List ByteArray)) : Prop := ∀ ⦃r : List ByteArray⦄, φ  = some r → ∀ ⦃w0 : World⦄ ⦃h0 : Hp⦄, Sub h0 w0 →
  Calls Tryz.prog 102 #[] w0 fun e w1 => ∃ v, e = .returned v ∧ ∃ h1, Stp [] w0 h0 w1 h1 ∧ RS h1 v r
theorem s_ref01_Words (k : Nat) : C_ref01_Words (Zd7 k) := by
 intro  r HF w0 h0  hs0 
 have S0 : Stp [] w0 h0 w0 h0 := Stp.refl hs0 _
 refine Z66 (n := 2) Tryz.func102 rfl Tryz.ntmps102 rfl [] rfl <| Za <| Z0 <| Wa rfl rfl <| Z7 <| Z5 <| Za <| Z0 <| Z3d (us := ((.string b'117) :: (.string b'119) :: (.string b'118) :: (.string b'120) :: (.string b'121) :: (.string b'122) :: (.string b'123) :: (.string b'124) :: (.string b'127) :: (.string b'126) :: (.string b'125) :: (.string b'129) :: (.string b'0) :: (.string b'1) :: (.string b'2) :: (.string b'3) :: (.string b'5) :: (.string b'11) :: (.string b'10) :: (.string b'6) :: (.string b'7) :: (.string b'8) :: (.string b'9) :: (.string b'12) :: (.string b'13) :: (.string b'14) :: (.string b'15) :: (.string b'20) :: (.string b'21) :: (.string b'22) :: (.string b'17) :: (.string b'18) :: (.string b'19) :: (.string b'23) :: (.string b'24) :: (.string b'26) :: (.string b'27) :: (.string b'28) :: (.string b'29) :: (.string b'30) :: (.string b'33) :: (.string b'32) :: (.string b'31) :: (.string b'34) :: (.string b'36) :: (.string b'35) :: (.string b'38) :: (.string b'37) :: (.string b'39) :: (.string b'40) :: (.string b'41) :: (.string b'44) :: (.string b'42) :: (.string b'43) :: (.string b'46) :: (.string b'48) :: (.string b'49) :: (.string b'51) :: (.string b'50) :: (.string b'52) :: (.string b'53) :: (.string b'54) :: (.string b'55) :: (.string b'57) :: (.string b'58) :: (.string b'63) :: (.string b'60) :: (.string b'62) :: (.string b'61) :: (.string b'59) :: (.string b'64) :: (.string b'66) :: (.string b'65) :: (.string b'67) :: (.string b'68) :: (.string b'71) :: (.string b'69) :: (.string b'70) :: (.string b'72) :: (.string b'78) :: (.string b'73) :: (.string b'74) :: (.string b'75) :: (.string b'77) :: (.string b'76) :: (.string b'80) :: (.string b'81) :: (.string b'83) :: (.string b'85) :: (.string b'84) :: [])) (cs := ((.string b'117) :: (.string b'119) :: (.string b'118) :: (.string b'120) :: (.string b'121) :: (.string b'122) :: (.string b'123) :: (.string b'124) :: (.string b'127) :: (.string b'126) :: (.string b'125) :: (.string b'129) :: (.string b'0) :: (.string b'1) :: (.string b'2) :: (.string b'3) :: (.string b'5) :: (.string b'11) :: (.string b'10) :: (.string b'6) :: (.string b'7) :: (.string b'8) :: (.string b'9) :: (.string b'12) :: (.string b'13) :: (.string b'14) :: (.string b'15) :: (.string b'20) :: (.string b'21) :: (.string b'22) :: (.string b'17) :: (.string b'18) :: (.string b'19) :: (.string b'23) :: (.string b'24) :: (.string b'26) :: (.string b'27) :: (.string b'28) :: (.string b'29) :: (.string b'30) :: (.string b'33) :: (.string b'32) :: (.string b'31) :: (.string b'34) :: (.string b'36) :: (.string b'35) :: (.string b'38) :: (.string b'37) :: (.string b'39) :: (.string b'40) :: (.string b'41) :: (.string b'44) :: (.string b'42) :: (.string b'43) :: (.string b'46) :: (.string b'48) :: (.string b'49) :: (.string b'51) :: (.string b'50) :: (.string b'52) :: (.string b'53) :: (.string b'54) :: (.string b'55) :: (.string b'57) :: (.string b'58) :: (.string b'63) :: (.string b'60) :: (.string b'62) :: (.string b'61) :: (.string b'59) :: (.string b'64) :: (.string b'66) :: (.string b'65) :: (.string b'67) :: (.string b'68) :: (.string b'71) :: (.string b'69) :: (.string b'70) :: (.string b'72) :: (.string b'78) :: (.string b'73) :: (.string b'74) :: (.string b'75) :: (.string b'77) :: (.string b'76) :: (.string b'80) :: (.string b'81) :: (.string b'83) :: (.string b'85) :: (.string b'84) :: [])) rfl rfl rfl Z26 Z6k Zeq rfl (Z0i rfl (Z0i rfl (Z0i rfl (Z0i rfl (Z0i rfl (Z0i rfl (Z0i rfl (Z0i rfl (Z0i rfl (Z0i rfl (Z0i rfl (Z0i rfl (Z0i rfl (Z0i rfl (Z0i rfl (Z0i rfl (Z0i rfl (Z0i rfl (Z0i rfl (Z0i rfl (Z0i rfl (Z0i rfl (Z0i rfl (Z0i rfl (Z0i rfl (Z0i rfl (Z0i rfl (Z0i rfl (Z0i rfl (Z0i rfl (Z0i rfl (Z0i rfl (Z0i rfl (Z0i rfl (Z0i rfl (Z0i rfl (Z0i rfl (Z0i rfl (Z0i rfl (Z0i rfl (Z0i rfl (Z0i rfl (Z0i rfl (Z0i rfl (Z0i rfl (Z0i rfl (Z0i rfl (Z0i rfl (Z0i rfl (Z0i rfl (Z0i rfl (Z0i rfl (Z0i rfl (Z0i rfl (Z0i rfl (Z0i rfl (Z0i rfl (Z0i rfl (Z0i rfl (Z0i rfl (Z0i rfl (Z0i rfl (Z0i rfl (Z0i rfl (Z0i rfl (Z0i rfl (Z0i rfl (Z0i rfl (Z0i rfl (Z0i rfl (Z0i rfl (Z0i rfl (Z0i rfl (Z0i rfl (Z0i rfl (Z0i rfl (Z0i rfl (Z0i rfl (Z0i rfl (Z0i rfl (Z0i rfl (Z0i rfl (Z0i rfl (Z0i rfl (Z0i rfl (Z0i rfl (Z0i rfl (Z0i rfl (Z0i rfl (Z0i rfl cl_nil)))))))))))))))))))))))))))))))))))))))))))))))))))))))))))))))))))))))))))))))))))))))))) rfl rfl rfl S0.sub (fun w1 h2 b3 hb4 s5 hk6 hc7 => ?_)
 have S8 := S0.trans0 s5
 have rs9 : RS h2 (sl b3 0 90 90) ((b'117 :: b'119 :: b'118 :: b'120 :: b'121 :: b'122 :: b'123 :: b'124 :: b'127 :: b'126 :: b'125 :: b'129 :: b'0 :: b'1 :: b'2 :: b'3 :: b'5 :: b'11 :: b'10 :: b'6 :: b'7 :: b'8 :: b'9 :: b'12 :: b'13 :: b'14 :: b'15 :: b'20 :: b'21 :: b'22 :: b'17 :: b'18 :: b'19 :: b'23 :: b'24 :: b'26 :: b'27 :: b'28 :: b'29 :: b'30 :: b'33 :: b'32 :: b'31 :: b'34 :: b'36 :: b'35 :: b'38 :: b'37 :: b'39 :: b'40 :: b'41 :: b'44 :: b'42 :: b'43 :: b'46 :: b'48 :: b'49 :: b'51 :: b'50 :: b'52 :: b'53 :: b'54 :: b'55 :: b'57 :: b'58 :: b'63 :: b'60 :: b'62 :: b'61 :: b'59 :: b'64 :: b'66 :: b'65 :: b'67 :: b'68 :: b'71 :: b'69 :: b'70 :: b'72 :: b'78 :: b'73 :: b'74 :: b'75 :: b'77 :: b'76 :: b'80 :: b'81 :: b'83 :: b'85 :: b'84 :: []) : List ByteArray) := RS.litL _ ([.string b'117] :: [.string b'119] :: [.string b'118] :: [.string b'120] :: [.string b'121] :: [.string b'122] :: [.string b'123] :: [.string b'124] :: [.string b'127] :: [.string b'126] :: [.string b'125] :: [.string b'129] :: [.string b'0] :: [.string b'1] :: [.string b'2] :: [.string b'3] :: [.string b'5] :: [.string b'11] :: [.string b'10] :: [.string b'6] :: [.string b'7] :: [.string b'8] :: [.string b'9] :: [.string b'12] :: [.string b'13] :: [.string b'14] :: [.string b'15] :: [.string b'20] :: [.string b'21] :: [.string b'22] :: [.string b'17] :: [.string b'18] :: [.string b'19] :: [.string b'23] :: [.string b'24] :: [.string b'26] :: [.string b'27] :: [.string b'28] :: [.string b'29] :: [.string b'30] :: [.string b'33] :: [.string b'32] :: [.string b'31] :: [.string b'34] :: [.string b'36] :: [.string b'35] :: [.string b'38] :: [.string b'37] :: [.string b'39] :: [.string b'40] :: [.string b'41] :: [.string b'44] :: [.string b'42] :: [.string b'43] :: [.string b'46] :: [.string b'48] :: [.string b'49] :: [.string b'51] :: [.string b'50] :: [.string b'52] :: [.string b'53] :: [.string b'54] :: [.string b'55] :: [.string b'57] :: [.string b'58] :: [.string b'63] :: [.string b'60] :: [.string b'62] :: [.string b'61] :: [.string b'59] :: [.string b'64] :: [.string b'66] :: [.string b'65] :: [.string b'67] :: [.string b'68] :: [.string b'71] :: [.string b'69] :: [.string b'70] :: [.string b'72] :: [.string b'78] :: [.string b'73] :: [.string b'74] :: [.string b'75] :: [.string b'77] :: [.string b'76] :: [.string b'80] :: [.string b'81] :: [.string b'83] :: [.string b'85] :: [.string b'84] :: []) rfl rfl hc7 ⟨rfl, rfl, rfl, rfl, rfl, rfl, rfl, rfl, rfl, rfl, rfl, rfl, rfl, rfl, rfl, rfl, rfl, rfl, rfl, rfl, rfl, rfl, rfl, rfl, rfl, rfl, rfl, rfl, rfl, rfl, rfl, rfl, rfl, rfl, rfl, rfl, rfl, rfl, rfl, rfl, rfl, rfl, rfl, rfl, rfl, rfl, rfl, rfl, rfl, rfl, rfl, rfl, rfl, rfl, rfl, rfl, rfl, rfl, rfl, rfl, rfl, rfl, rfl, rfl, rfl, rfl, rfl, rfl, rfl, rfl, rfl, rfl, rfl, rfl, rfl, rfl, rfl, rfl, rfl, rfl, rfl, rfl, rfl, rfl, rfl, rfl, rfl, rfl, rfl, rfl, trivial⟩
 have ow10 := Own.lit (base := w0.heap.size) (sz := 1) (m := 90) hk6 hc7 (by rw [hb4]; exact S0.size) rfl (by decide)
 refine Wa rfl rfl <| Z7 <| Z5 <| Z09 <| Zt rfl rfl ?_
 obtain rfl := Option.some.inj HF
 exact ⟨_, rfl, h2, S8, rs9⟩
theorem ok_ref01_Words (k : Nat) : C_ref01_Words (Zd7 k) := s_ref01_Words k

def C_ref01_has (φ : (List ByteArray) → ByteArray → Option Bool) : Prop := ∀ ⦃xs1 : List ByteArray⦄ ⦃x4 : ByteArray⦄ ⦃r : Bool⦄, φ xs1 x4 = some r → ∀ ⦃w0 : World⦄ ⦃h0 : Hp⦄ ⦃v2 : Value⦄, Sub h0 w0 → RS h0 v2 xs1 →
  Calls Tryz.prog 101 #[v2, .string x4] w0 fun e w1 => ∃ v, e = .returned v ∧ ∃ h1, Stp [] w0 h0 w1 h1 ∧ v = .bool r
theorem s_ref01_has (k : Nat) (IH : ∀ j, j ≤ k → C_ref01_has (Z37 j).ref01_has) : C_ref01_has (m_ref01_has k (Z37 k)) := by
 intro xs1 x4 r HF w0 h0 v2 hs0 rs3
 have S0 : Stp [] w0 h0 w0 h0 := Stp.refl hs0 _
 refine Z66 (n := 18) Tryz.func101 rfl Tryz.ntmps101 rfl [(0, v2), (1, .string x4)] rfl <| Za <| Z0 <| Wa rfl rfl <| Z7 <| Z5 <| Za <| Za <| Z0 <| Wa rfl rfl <| Z7 <| Z5 <| Z0c <| Z4j <| Z8e [0, 1, 5] [(0, v2), (1, .string x4), (5, vi 0)] rfl <| Z4m (K := k) (fun j E w6 => ∃ (h5 : Hp) (x9 : Int), (Z37 j).ref01_has_l1 xs1 x4 x9 = some r ∧ E = [(0, v2), (1, .string x4), (5, vi x9)] ∧ Stp [] w0 h0 w6 h5 ∧ Hle h0 h5) ?_ ?_ (j := k) (Nat.le_refl _) ?_
 ·rintro E w6 ⟨_, _, HF, _⟩; cases HF
 ·rintro j10 hj12 IHL11 E w6 ⟨h5, x9, HF, rfl, S8, le7⟩
  refine Z04 (fun E w18 => ∃ (h17 : Hp), ref01_has_j2 j10 (Z37 j10) xs1 x4 x9 = some r ∧ E = [(0, v2), (1, .string x4), (5, vi x9)] ∧ Stp [] w0 h0 w18 h17 ∧ Hle h5 h17) ?_ ?_
  ·rintro E w18 ⟨h17, HF, rfl, S20, le19⟩
   refine Z04 (fun E w36 => ∃ (h35 : Hp), ref01_has_j3 j10 (Z37 j10) xs1 x4 x9 = some r ∧ E = [(0, v2), (1, .string x4), (5, vi x9)] ∧ Stp [] w0 h0 w36 h35 ∧ Hle h17 h35) ?_ ?_
   ·rintro E w36 ⟨h35, HF, rfl, S38, le37⟩
    refine Z0 <| Wm rfl rfl <| Wv rfl (Z2v rfl rfl) <| Wa rfl rfl <| Z7 <| Z2x <| Z8e [0, 1, 5] [(0, v2), (1, .string x4), (5, vi (IntKind.i64.wrap (x9 + 1)))] rfl ?_
    exact IHL11 j10 (Nat.le_refl _) _ _ ⟨h35, IntKind.i64.wrap (x9 + 1), HF, rfl, S38, (le7).trans ((le19).trans le37)⟩
   intro J39
   refine Z0c <| Za <| Z0 <| Wm rfl rfl <| Wm rfl rfl ?_
   obtain ⟨A21, c22, rfl, rs23⟩ := RS.form (rs3.mono ((le7).trans le19))
   obtain ⟨e24, he25, HF⟩ := Z6 HF
   obtain ⟨b26, o27, rfl, h29, h30, ra28⟩ := RS.atO rs23 he25
   obtain ⟨cs31, r32, hc33⟩ := ra28
   obtain rfl := (show cs31 = _ from r32)
   refine Wv rfl (Zk rfl rfl Z26 Z6k h29 h30) <| Wv rfl (Z8 rfl Z3l (S20.sub.at_ _ _ _ (hc33 0 _ rfl))) <| Wm rfl rfl <| Wv rfl (Z0g rfl rfl) <| Z7 <| Z5 <| Z12 HF rfl (fun HF => ?_) (fun HF => ?_)
   ·refine Za <| Z0 <| Wa rfl rfl <| Z7 <| Z5 <| Z09 <| Z03 <| Zp <| Zp <| Z03 <| Zp <| Zt rfl rfl ?_
    obtain rfl := Option.some.inj HF
    exact ⟨_, rfl, h17, S20, rfl⟩
   refine Zm <| Zv <| Z06 [0, 1, 5] _ rfl ?_
   exact J39 ⟨h17, HF, rfl, S20, Hle.refl _⟩
  intro J40
  refine Za <| Z0 <| Wm rfl rfl <| Wm rfl rfl ?_
  obtain ⟨A13, c14, rfl, rs15⟩ := RS.form (rs3.mono (le7))
  refine Wv rfl (Z0v rfl Z26) <| Wv rfl (Z6q rfl rfl) <| Z7 <| Z5 <| Z12 HF rfl (fun HF => ?_) (fun HF => ?_)
  ·refine Zm <| Z06 [0, 1, 5] _ rfl ?_
   exact J40 ⟨h5, HF, rfl, S8, Hle.refl _⟩
  refine Z4b <| Zr <| Zr <| Z0x <| Z5 <| Za <| Z0 <| Wa rfl rfl <| Z7 <| Z5 <| Z09 <| Zt rfl rfl ?_
  obtain rfl := Option.some.inj HF
  exact ⟨_, rfl, h5, S8, rfl⟩
 exact ⟨h0, 0, HF, rfl, S0, Hle.refl _⟩
theorem all_ref01_has : ∀ k j, j ≤ k → C_ref01_has (Z37 j).ref01_has := by
  intro k
  induction k with
  | zero =>
    intro j hj
    obtain rfl : j = 0 := by omega
    exact (fun _ _ _ => by intro h; cases h)
  | succ k ih =>
    intro j hj
    by_cases h : j ≤ k
    · exact ih j h
    · obtain rfl : j = k + 1 := by omega
      exact s_ref01_has k ih
theorem ok_ref01_has (k : Nat) : C_ref01_has (F_ref01_has k) := (all_ref01_has k k (Nat.le_refl _))

def C_ref01_IsWord (φ : ByteArray → Option Bool) : Prop := ∀ ⦃x1 : ByteArray⦄ ⦃r : Bool⦄, φ x1 = some r → ∀ ⦃w0 : World⦄ ⦃h0 : Hp⦄, Sub h0 w0 →
  Calls Tryz.prog 84 #[.string x1] w0 fun e w1 => ∃ v, e = .returned v ∧ ∃ h1, Stp [] w0 h0 w1 h1 ∧ v = .bool r
theorem s_ref01_IsWord (k : Nat) : C_ref01_IsWord (Za0 k) := by
 intro x1 r HF w0 h0  hs0 
 have S0 : Stp [] w0 h0 w0 h0 := Stp.refl hs0 _
 refine Z66 (n := 6) Tryz.func84 rfl Tryz.ntmps84 rfl [(0, .string x1)] rfl <| Za <| Z0 <| Wa rfl rfl <| Z7 <| Z5 <| Za <| Z0 ?_
 obtain ⟨r2, hr3, HF⟩ := Z6 HF
 refine Wc rfl (Zi (vs := []) rfl t_ent_102) (ok_ref01_Words _ hr3 S0.sub) ?_
 rintro v8 w5 ⟨h6, s7, rs9⟩
 have S10 := S0.trans0 s7
 refine Wm rfl rfl ?_
 obtain ⟨r11, hr12, HF⟩ := Z6 HF
 refine Wc rfl (Zi (vs := [v8, .string x1]) rfl t_ent_101) (ok_ref01_has _ hr12 S10.sub rs9) ?_
 rintro _ w14 ⟨h15, s16, rfl⟩
 have S17 := S10.trans0 s16
 refine Wa rfl rfl <| Z7 <| Z5 <| Z09 <| Zt rfl rfl ?_
 obtain rfl := Option.some.inj HF
 exact ⟨_, rfl, h15, S17, rfl⟩
theorem ok_ref01_IsWord (k : Nat) : C_ref01_IsWord (Za0 k) := s_ref01_IsWord k

def Zcb (φ : ByteArray → Option Bool) : Prop := ∀ ⦃x1 : ByteArray⦄ ⦃r : Bool⦄, φ x1 = some r → ∀ ⦃w0 : World⦄ ⦃h0 : Hp⦄, Sub h0 w0 →
  Calls Tryz.prog 60 #[.string x1] w0 fun e w1 => ∃ v, e = .returned v ∧ ∃ h1, Stp [] w0 h0 w1 h1 ∧ v = .bool r
theorem s_ref01_IsName (k : Nat) (IH : ∀ j, j ≤ k → Zcb (Z1k j).ref01_IsName) : Zcb (Zf5 k (Z1k k)) := by
 intro x1 r HF w0 h0  hs0 
 have S0 : Stp [] w0 h0 w0 h0 := Stp.refl hs0 _
 refine Z66 (n := 45) Tryz.func60 rfl Tryz.ntmps60 rfl [(0, .string x1)] rfl <| Za <| Z0 <| Wa rfl rfl <| Z7 <| Z5 <| Za <| Za <| Z0 <| Wa rfl rfl <| Z7 <| Z5 <| Z0c <| Z4j <| Z8e [0, 3] [(0, .string x1), (3, vi 0)] rfl <| Z4m (K := k) (fun j E w3 => ∃ (h2 : Hp) (x6 : Int), (Z1k j).ref01_IsName_l1 x1 x6 = some r ∧ E = [(0, .string x1), (3, vi x6)] ∧ Stp [] w0 h0 w3 h2 ∧ Hle h0 h2) ?_ ?_ (j := k) (Nat.le_refl _) ?_
 ·rintro E w3 ⟨_, _, HF, _⟩; cases HF
 ·rintro j7 hj9 IHL8 E w3 ⟨h2, x6, HF, rfl, S5, le4⟩
  refine Z04 (fun E w21 => ∃ (h20 : Hp), Zds j7 (Z1k j7) x1 x6 = some r ∧ E = [(0, .string x1), (3, vi x6)] ∧ Stp [] w0 h0 w21 h20 ∧ Hle h2 h20) ?_ ?_
  ·rintro E w21 ⟨h20, HF, rfl, S23, le22⟩
   refine Z04 (fun E w55 => ∃ (h54 : Hp), Zdt j7 (Z1k j7) x1 x6 = some r ∧ E = [(0, .string x1), (3, vi x6)] ∧ Stp [] w0 h0 w55 h54 ∧ Hle h20 h54) ?_ ?_
   ·rintro E w55 ⟨h54, HF, rfl, S57, le56⟩
    refine Z0 <| Wm rfl rfl <| Wv rfl (Z2v rfl rfl) <| Wa rfl rfl <| Z7 <| Z2x <| Z8e [0, 3] [(0, .string x1), (3, vi (IntKind.i64.wrap (x6 + 1)))] rfl ?_
    exact IHL8 j7 (Nat.le_refl _) _ _ ⟨h54, IntKind.i64.wrap (x6 + 1), HF, rfl, S57, (le4).trans ((le22).trans le56)⟩
   intro J58
   refine Z0c <| Z04 (fun E w48 => ∃ (h47 : Hp) (x51 : Bool), Z7h j7 (Z1k j7) x1 x6 x51 = some r ∧ E = [(0, .string x1), (3, vi x6), (31, .bool x51)] ∧ Stp [] w0 h0 w48 h47 ∧ Hle h20 h47) ?_ ?_
   ·rintro E w48 ⟨h47, x51, HF, rfl, S50, le49⟩
    refine Z12 HF rfl (fun HF => ?_) (fun HF => ?_)
    ·refine Za <| Z0 <| Wa rfl rfl <| Z7 <| Z5 <| Z09 <| Z03 <| Zp <| Zp <| Z03 <| Zp <| Zt rfl rfl ?_
     obtain rfl := Option.some.inj HF
     exact ⟨_, rfl, h47, S50, rfl⟩
    refine Zm <| Zv <| Z06 [0, 3] _ rfl ?_
    exact J58 ⟨h47, HF, rfl, S50, le49⟩
   intro J53
   refine Z0 <| Wm rfl rfl <| Wm rfl rfl ?_
   obtain ⟨c24, hc25, HF⟩ := Z6 HF
   refine Wv rfl (Zbs rfl rfl Z3b hc25) ?_
   obtain ⟨r26, hr27, HF⟩ := Z6 HF
   refine Wc rfl (Zi (vs := [.int .u8 c24]) rfl t_ent_82) (ok_ref01_letter _ hr27 S23.sub) ?_
   rintro _ w29 ⟨h30, s31, rfl⟩
   have S32 := S23.trans0 s31
   refine Wv rfl (Z4o rfl) <| Wm rfl rfl <| Z2m 15 HF rfl (fun HF => ?_) (fun HF => ?_)
   ·refine Wm rfl rfl <| Wv rfl (Z0y rfl rfl) <| Wm rfl rfl <| Z2m 18 HF rfl (fun HF => ?_) (fun HF => ?_)
    ·refine Wp rfl <| Wp rfl <| Wp rfl <| Wp rfl <| Wp rfl <| Wp rfl <| Wp rfl <| Wp rfl <| Wp rfl <| Wp rfl <| Wp rfl <| Wv rfl (Zh rfl rfl) <| Wv rfl (Zh rfl rfl) <| Z7 <| Z06 [0, 3, 31] _ rfl ?_
     exact J53 ⟨h30, true, HF, rfl, S32, s31.le⟩
    refine Wm rfl rfl <| Wm rfl rfl ?_
    obtain ⟨c35, hc36, HF⟩ := Z6 HF
    refine Wv rfl (Zbs rfl rfl Z3b hc36) ?_
    obtain ⟨r37, hr38, HF⟩ := Z6 HF
    refine Wc rfl (Zi (vs := [.int .u8 c35]) rfl t_ent_83) (ok_ref01_digit _ hr38 S32.sub) ?_
    rintro _ w40 ⟨h41, s42, rfl⟩
    have S43 := S32.trans0 s42
    refine Wv rfl (Z4o rfl) <| Wm rfl rfl <| Z2m 24 HF rfl (fun HF => ?_) (fun HF => ?_)
    ·refine Wm rfl rfl <| Wm rfl rfl ?_
     obtain ⟨c45, hc46, HF⟩ := Z6 HF
     refine Wv rfl (Zbs rfl rfl Z3b hc46) <| Wv rfl (ov_neq rfl rfl) <| Wv rfl (Zh rfl rfl) <| Wv rfl (Zf rfl rfl) <| Wv rfl (Zh rfl rfl) <| Z7 <| Z06 [0, 3, 31] _ rfl ?_
     exact J53 ⟨h41, (c45 : Int) != 95, HF, rfl, S43, (s31.le).trans s42.le⟩
    refine Wp rfl <| Wp rfl <| Wp rfl <| Wp rfl <| Wv rfl (Zf rfl rfl) <| Wv rfl (Zf rfl rfl) <| Wv rfl (Zh rfl rfl) <| Z7 <| Z06 [0, 3, 31] _ rfl ?_
    exact J53 ⟨h41, false, HF, rfl, S43, (s31.le).trans s42.le⟩
   refine Wp rfl <| Wp rfl <| Wp rfl <| Wp rfl <| Wp rfl <| Wp rfl <| Wp rfl <| Wp rfl <| Wp rfl <| Wp rfl <| Wp rfl <| Wp rfl <| Wp rfl <| Wp rfl <| Wp rfl <| Wv rfl (Zf rfl rfl) <| Z7 <| Z06 [0, 3, 31] _ rfl ?_
   exact J53 ⟨h30, false, HF, rfl, S32, s31.le⟩
  intro J59
  refine Za <| Z0 <| Wm rfl rfl <| Wm rfl rfl <| Wv rfl (ov_lenS rfl Z3b) <| Wv rfl (Z6q rfl rfl) <| Z7 <| Z5 <| Z12 HF rfl (fun HF => ?_) (fun HF => ?_)
  ·refine Zm <| Z06 [0, 3] _ rfl ?_
   exact J59 ⟨h2, HF, rfl, S5, Hle.refl _⟩
  refine Z4b <| Zr <| Zr <| Z0x <| Z5 <| Za <| Z0 <| Wm rfl rfl <| Wv rfl (ov_lenS rfl Z3b) <| Wv rfl (ov_geq rfl rfl) <| Wm rfl rfl <| Z2m 35 HF rfl (fun HF => ?_) (fun HF => ?_)
  ·refine Wm rfl rfl <| Wv rfl (ov_lenS rfl Z3b) <| Wv rfl (Zdo rfl rfl) <| Wv rfl (Zh rfl rfl) <| Wm rfl rfl <| Z2m 40 HF rfl (fun HF => ?_) (fun HF => ?_)
   ·refine Wm rfl rfl ?_
    obtain ⟨r13, hr14, HF⟩ := Z6 HF
    refine Wc rfl (Zi (vs := [.string x1]) rfl t_ent_84) (ok_ref01_IsWord _ hr14 S5.sub) ?_
    rintro _ w16 ⟨h17, s18, rfl⟩
    have S19 := S5.trans0 s18
    refine Wv rfl (Z4o rfl) <| Wv rfl (Zh rfl rfl) <| Wa rfl rfl <| Z7 <| Z5 <| Z09 <| Zt rfl rfl ?_
    obtain rfl := Option.some.inj HF
    exact ⟨_, rfl, h17, S19, rfl⟩
   refine Wp rfl <| Wp rfl <| Wp rfl <| Wv rfl (Zf rfl rfl) <| Wa rfl rfl <| Z7 <| Z5 <| Z09 <| Zt rfl rfl ?_
   obtain rfl := Option.some.inj HF
   exact ⟨_, rfl, h2, S5, rfl⟩
  refine Wp rfl <| Wp rfl <| Wp rfl <| Wv rfl (Zf rfl rfl) <| Wm rfl rfl <| Wp rfl <| Wp rfl <| Wp rfl <| Wv rfl (Zf rfl rfl) <| Wa rfl rfl <| Z7 <| Z5 <| Z09 <| Zt rfl rfl ?_
  obtain rfl := Option.some.inj HF
  exact ⟨_, rfl, h2, S5, rfl⟩
 exact ⟨h0, 0, HF, rfl, S0, Hle.refl _⟩
theorem all_ref01_IsName : ∀ k j, j ≤ k → Zcb (Z1k j).ref01_IsName := by
  intro k
  induction k with
  | zero =>
    intro j hj
    obtain rfl : j = 0 := by omega
    exact (fun _ _ => by intro h; cases h)
  | succ k ih =>
    intro j hj
    by_cases h : j ≤ k
    · exact ih j h
    · obtain rfl : j = k + 1 := by omega
      exact s_ref01_IsName k ih
theorem Zbn (k : Nat) : Zcb (Z57 k) := (all_ref01_IsName k k (Nat.le_refl _))

def Z78 (φ : Int → Int → Bool → Ex → Int → Option (Int × Int × Bool)) : Prop := ∀ ⦃x3 : Int⦄ ⦃x4 : Int⦄ ⦃x5 : Bool⦄ ⦃x7 : Ex⦄ ⦃x10 : Int⦄ ⦃r : Int × Int × Bool⦄, φ x3 x4 x5 x7 x10 = some r → ∀ ⦃w0 : World⦄ ⦃h0 : Hp⦄ ⦃b1 : Nat⦄ ⦃T2 : Nat⦄ ⦃cs8 : List Value⦄, Sub h0 w0 → Rp.R h0 x7 cs8 → OB w0 h0 b1 T2 [.int .i64 x3, .int .i64 x4, .bool x5] →
  Calls Tryz.prog 28 #[.pointer (some ⟨b1, 0, none⟩), .agg cs8.toArray, .int .i64 x10] w0 fun e w1 => ∃ v, e = .returned v ∧ ∃ h1, Stp [b1] w0 h0 w1 h1 ∧ v = .tuple #[] ∧ (OB w1 h1 b1 T2 [.int .i64 r.1, .int .i64 r.2.1, .bool r.2.2])
def Z6n (φ : Int → Int → Bool → (List Ex) → Int → Option (Int × Int × Bool)) : Prop := ∀ ⦃x3 : Int⦄ ⦃x4 : Int⦄ ⦃x5 : Bool⦄ ⦃xs7 : List Ex⦄ ⦃x10 : Int⦄ ⦃r : Int × Int × Bool⦄, φ x3 x4 x5 xs7 x10 = some r → ∀ ⦃w0 : World⦄ ⦃h0 : Hp⦄ ⦃b1 : Nat⦄ ⦃T2 : Nat⦄ ⦃v8 : Value⦄, Sub h0 w0 → RS h0 v8 xs7 → OB w0 h0 b1 T2 [.int .i64 x3, .int .i64 x4, .bool x5] →
  Calls Tryz.prog 61 #[.pointer (some ⟨b1, 0, none⟩), v8, .int .i64 x10] w0 fun e w1 => ∃ v, e = .returned v ∧ ∃ h1, Stp [b1] w0 h0 w1 h1 ∧ v = .tuple #[] ∧ (OB w1 h1 b1 T2 [.int .i64 r.1, .int .i64 r.2.1, .bool r.2.2])
theorem s_ref02_Size_Expr (k : Nat) (IH : ∀ j, j ≤ k → Z78 (Zl j).ref02_Size_Expr ∧ Z6n (Zl j).ref02_Size_Exprs) : Z78 (Z75 k (Zl k)) := by
 intro x3 x4 x5 x7 x10 r HF w0 h0 b1 T2 cs8 hs0 r9 ob6
 have S0 : Stp [b1] w0 h0 w0 h0 := Stp.refl hs0 _
 have lt11 : b1 < w0.heap.size := OB.lt ob6
 refine Z66 (n := 150) Tryz.func28 rfl Tryz.ntmps28 rfl [(0, pt b1 0), (1, .agg cs8.toArray), (2, vi x10)] rfl <| Za <| Z0 ?_
 obtain ⟨v12, rfl, rs13⟩ := rp_Ex.1 r9
 refine Zd2 (cs := [vi x7.op, vi x7.kind, vi x7.n, .string x7.s, .string x7.f, v12]) rfl rfl rfl rfl S0.sub (fun w14 b15 hb16 s17 ob18 => ?_)
 have ne19 : b1 ≠ b15 := ob6.ne_new hb16
 have g20 : w0.heap.size ≤ b15 := by rw [hb16]; exact S0.size
 have S21 := S0.trans0 s17
 refine Z7 <| Z5 <| Z04 (fun E w25 => ∃ (h24 : Hp), Zb0 k (Zl k) x3 x4 x5 x7 x10 = some r ∧ E = [(0, pt b1 0), (2, vi x10), (4, pt b15 0)] ∧ Stp [b1] w0 h0 w25 h24 ∧ Hle h0 h24 ∧ OB w25 h24 b1 T2 [vi x3, vi x4, .bool x5] ∧ OB w25 h24 b15 32 [vi x7.op, vi x7.kind, vi x7.n, .string x7.s, .string x7.f, v12]) ?_ ?_
 ·rintro E w25 ⟨h24, HF, rfl, S27, le26, ob28, ob29⟩
  refine Za <| Z0 <| Wm rfl rfl <| Wm rfl rfl ?_
  obtain ⟨r30, hr31, HF⟩ := Z6 HF
  refine Wc rfl (Zi (vs := [pt b1 0, vi x10]) rfl t_ent_58) (Zb4 _ hr31 S27.sub ob28) ?_
  rintro v32 w33 ⟨h34, s35, rfl, ob36⟩
  have S37 := S27.trans s35 (Zy (.inl (by simp)) Z0q)
  refine Z7 <| Z5 <| Za <| Z0 <| Wa rfl rfl <| Z7 <| Z5 <| Za <| Z0 <| Wa rfl rfl <| Wa rfl rfl <| Z7 <| Z5 <| Z04 (fun E w128 => ∃ (h127 : Hp) (x131 : Int) (x132 : Bool) (x133 : Bool) (x134 : Bool), Z15 k (Zl k) x7 x10 r30 x131 x132 x133 x134 = some r ∧ E = [(0, pt b1 0), (2, vi x10), (4, pt b15 0), (6, vi x131), (7, .bool x132), (8, .bool x133)] ∧ Stp [b1] w0 h0 w128 h127 ∧ Hle h34 h127 ∧ OB w128 h127 b1 T2 [vi r30.1, vi r30.2.1, .bool x134] ∧ OB w128 h127 b15 32 [vi x7.op, vi x7.kind, vi x7.n, .string x7.s, .string x7.f, v12]) ?_ ?_
  ·rintro E w128 ⟨h127, x131, x132, x133, x134, HF, rfl, S130, le129, ob135, ob136⟩
   refine Z04 (fun E w176 => ∃ (h175 : Hp) (x179 : Bool), Z58 k (Zl k) x7 x10 r30 x132 x133 x179 = some r ∧ E = [(0, pt b1 0), (2, vi x10), (4, pt b15 0), (7, .bool x132), (8, .bool x133)] ∧ Stp [b1] w0 h0 w176 h175 ∧ Hle h127 h175 ∧ OB w176 h175 b1 T2 [vi r30.1, vi r30.2.1, .bool x179] ∧ OB w176 h175 b15 32 [vi x7.op, vi x7.kind, vi x7.n, .string x7.s, .string x7.f, v12]) ?_ ?_
   ·rintro E w176 ⟨h175, x179, HF, rfl, S178, le177, ob180, ob181⟩
    refine Z04 (fun E w238 => ∃ (h237 : Hp) (x241 : Bool), Z47 k (Zl k) x7 x10 r30 x133 x241 = some r ∧ E = [(0, pt b1 0), (2, vi x10), (4, pt b15 0), (8, .bool x133)] ∧ Stp [b1] w0 h0 w238 h237 ∧ Hle h175 h237 ∧ OB w238 h237 b1 T2 [vi r30.1, vi r30.2.1, .bool x241] ∧ OB w238 h237 b15 32 [vi x7.op, vi x7.kind, vi x7.n, .string x7.s, .string x7.f, v12]) ?_ ?_
    ·rintro E w238 ⟨h237, x241, HF, rfl, S240, le239, ob242, ob243⟩
     refine Z04 (fun E w300 => ∃ (h299 : Hp) (x303 : Bool), Z4a k (Zl k) x7 x10 r30 x303 = some r ∧ E = [(0, pt b1 0), (2, vi x10), (4, pt b15 0)] ∧ Stp [b1] w0 h0 w300 h299 ∧ Hle h237 h299 ∧ OB w300 h299 b1 T2 [vi r30.1, vi r30.2.1, .bool x303] ∧ OB w300 h299 b15 32 [vi x7.op, vi x7.kind, vi x7.n, .string x7.s, .string x7.f, v12]) ?_ ?_
     ·rintro E w300 ⟨h299, x303, HF, rfl, S302, le301, ob304, ob305⟩
      refine Z0 <| Wm rfl rfl <| Wv rfl (Z2 rfl Z0z) <| Wv rfl (Z8 rfl Z0h (OB.cell ob305 (j := 5) rfl)) <| Wm rfl rfl <| Wv rfl (Z2v rfl rfl) ?_
      obtain ⟨r306, hr307, HF⟩ := Z6 HF
      refine Wc rfl (Zi (vs := [pt b1 0, v12, vi (IntKind.i64.wrap (x10 + 1))]) rfl t_ent_61) ((IH _ (Nat.le_refl _)).2 hr307 S302.sub (rs13.mono ((s17.le).trans ((le26).trans ((s35.le).trans ((le129).trans ((le177).trans ((le239).trans le301))))))) ob304) ?_
      rintro v308 w309 ⟨h310, s311, rfl, ob312⟩
      have S313 := S302.trans s311 (Zy (.inl (by simp)) Z0q)
      refine Z7 <| Z5v rfl ?_
      obtain rfl := Option.some.inj HF
      exact ⟨_, rfl, h310, S313, rfl, ob312⟩
     intro J314
     refine Z0 <| Wm rfl rfl <| Wm rfl rfl <| Wm rfl rfl <| Z2m 129 HF rfl (fun HF => ?_) (fun HF => ?_)
     ·refine Wv rfl (Z2 rfl Zb7) <| Wv rfl (Z8 rfl Z3l (OB.cell ob243 (j := 4) rfl)) ?_
      obtain ⟨r245, hr246, HF⟩ := Z6 HF
      refine Wc rfl (Zi (vs := [.string x7.f]) rfl t_ent_60) (Zbn _ hr246 S240.sub) ?_
      rintro _ w248 ⟨h249, s250, rfl⟩
      have S251 := S240.trans0 s250
      refine Wv rfl (Zh rfl rfl) <| Wm rfl rfl <| Z2m 134 HF rfl (fun HF => ?_) (fun HF => ?_)
      ·refine Wp rfl <| Wp rfl <| Wp rfl <| Wp rfl <| Wp rfl <| Wp rfl <| Wp rfl <| Wv rfl (Zh rfl rfl) ?_
       have ob253 := (ob242.step0 s250)
       obtain ⟨r254, hr255, HF⟩ := Z6 HF
       refine Wc rfl (Zi (vs := [pt b1 0, .bool true]) rfl Z0m) (Zb _ hr255 S251.sub ob253) ?_
       rintro v256 w257 ⟨h258, s259, rfl, ob260⟩
       have S261 := S251.trans s259 (Zy (.inl (by simp)) Z0q)
       refine Z7 ?_
       have ob315 := ((ob243.step0 s250).step1 s259 (Ne.symm ne19))
       refine Z06 [0, 2, 4] _ rfl ?_
       exact J314 ⟨h258, r254, HF, rfl, S261, (s250.le).trans s259.le, ob260, ob315⟩
      refine Wm rfl rfl <| Wv rfl (Z4o rfl) <| Wm rfl rfl <| Z2m 137 HF rfl (fun HF => ?_) (fun HF => ?_)
      ·refine Wv rfl (Z2 rfl Zb7) ?_
       have ob263 := (ob243.step0 s250)
       refine Wv rfl (Z8 rfl Z3l (OB.cell ob263 (j := 4) rfl)) <| Wv rfl (Z0g rfl rfl) <| Wv rfl (Zh rfl rfl) <| Wv rfl (Zf rfl rfl) ?_
       have ob264 := (ob242.step0 s250)
       obtain ⟨r265, hr266, HF⟩ := Z6 HF
       refine Wc rfl (Zi (vs := [pt b1 0, .bool (bEq x7.f Z2c)]) rfl Z0m) (Zb _ hr266 S251.sub ob264) ?_
       rintro v267 w268 ⟨h269, s270, rfl, ob271⟩
       have S272 := S251.trans s270 (Zy (.inl (by simp)) Z0q)
       refine Z7 ?_
       have ob316 := (ob263.step1 s270 (Ne.symm ne19))
       refine Z06 [0, 2, 4] _ rfl ?_
       exact J314 ⟨h269, r265, HF, rfl, S272, (s250.le).trans s270.le, ob271, ob316⟩
      refine Wp rfl <| Wp rfl <| Wp rfl <| Wv rfl (Zf rfl rfl) <| Wv rfl (Zf rfl rfl) ?_
      have ob273 := (ob242.step0 s250)
      obtain ⟨r274, hr275, HF⟩ := Z6 HF
      refine Wc rfl (Zi (vs := [pt b1 0, .bool false]) rfl Z0m) (Zb _ hr275 S251.sub ob273) ?_
      rintro v276 w277 ⟨h278, s279, rfl, ob280⟩
      have S281 := S251.trans s279 (Zy (.inl (by simp)) Z0q)
      refine Z7 ?_
      have ob317 := ((ob243.step0 s250).step1 s279 (Ne.symm ne19))
      refine Z06 [0, 2, 4] _ rfl ?_
      exact J314 ⟨h278, r274, HF, rfl, S281, (s250.le).trans s279.le, ob280, ob317⟩
     refine Wp rfl <| Wp rfl <| Wp rfl <| Wv rfl (Zf rfl rfl) <| Wm rfl rfl <| Wm rfl rfl <| Wv rfl (Z4o rfl) <| Wm rfl rfl <| Z2m 137 HF rfl (fun HF => ?_) (fun HF => ?_)
     ·refine Wv rfl (Z2 rfl Zb7) <| Wv rfl (Z8 rfl Z3l (OB.cell ob243 (j := 4) rfl)) <| Wv rfl (Z0g rfl rfl) <| Wv rfl (Zh rfl rfl) <| Wv rfl (Zf rfl rfl) ?_
      obtain ⟨r283, hr284, HF⟩ := Z6 HF
      refine Wc rfl (Zi (vs := [pt b1 0, .bool (bEq x7.f Z2c)]) rfl Z0m) (Zb _ hr284 S240.sub ob242) ?_
      rintro v285 w286 ⟨h287, s288, rfl, ob289⟩
      have S290 := S240.trans s288 (Zy (.inl (by simp)) Z0q)
      refine Z7 ?_
      have ob318 := (ob243.step1 s288 (Ne.symm ne19))
      refine Z06 [0, 2, 4] _ rfl ?_
      exact J314 ⟨h287, r283, HF, rfl, S290, s288.le, ob289, ob318⟩
     refine Wp rfl <| Wp rfl <| Wp rfl <| Wv rfl (Zf rfl rfl) <| Wv rfl (Zf rfl rfl) ?_
     obtain ⟨r291, hr292, HF⟩ := Z6 HF
     refine Wc rfl (Zi (vs := [pt b1 0, .bool false]) rfl Z0m) (Zb _ hr292 S240.sub ob242) ?_
     rintro v293 w294 ⟨h295, s296, rfl, ob297⟩
     have S298 := S240.trans s296 (Zy (.inl (by simp)) Z0q)
     refine Z7 ?_
     have ob319 := (ob243.step1 s296 (Ne.symm ne19))
     refine Z06 [0, 2, 4] _ rfl ?_
     exact J314 ⟨h295, r291, HF, rfl, S298, s296.le, ob297, ob319⟩
    intro J320
    refine Z0 <| Wm rfl rfl <| Wm rfl rfl <| Wm rfl rfl <| Z2m 112 HF rfl (fun HF => ?_) (fun HF => ?_)
    ·refine Wv rfl (Z2 rfl Z4y) <| Wv rfl (Z8 rfl Z3l (OB.cell ob181 (j := 3) rfl)) ?_
     obtain ⟨r183, hr184, HF⟩ := Z6 HF
     refine Wc rfl (Zi (vs := [.string x7.s]) rfl t_ent_60) (Zbn _ hr184 S178.sub) ?_
     rintro _ w186 ⟨h187, s188, rfl⟩
     have S189 := S178.trans0 s188
     refine Wv rfl (Zh rfl rfl) <| Wm rfl rfl <| Z2m 117 HF rfl (fun HF => ?_) (fun HF => ?_)
     ·refine Wp rfl <| Wp rfl <| Wp rfl <| Wp rfl <| Wp rfl <| Wp rfl <| Wp rfl <| Wv rfl (Zh rfl rfl) ?_
      have ob191 := (ob180.step0 s188)
      obtain ⟨r192, hr193, HF⟩ := Z6 HF
      refine Wc rfl (Zi (vs := [pt b1 0, .bool true]) rfl Z0m) (Zb _ hr193 S189.sub ob191) ?_
      rintro v194 w195 ⟨h196, s197, rfl, ob198⟩
      have S199 := S189.trans s197 (Zy (.inl (by simp)) Z0q)
      refine Z7 ?_
      have ob321 := ((ob181.step0 s188).step1 s197 (Ne.symm ne19))
      refine Z06 [0, 2, 4, 8] _ rfl ?_
      exact J320 ⟨h196, r192, HF, rfl, S199, (s188.le).trans s197.le, ob198, ob321⟩
     refine Wm rfl rfl <| Wv rfl (Z4o rfl) <| Wm rfl rfl <| Z2m 120 HF rfl (fun HF => ?_) (fun HF => ?_)
     ·refine Wv rfl (Z2 rfl Z4y) ?_
      have ob201 := (ob181.step0 s188)
      refine Wv rfl (Z8 rfl Z3l (OB.cell ob201 (j := 3) rfl)) <| Wv rfl (Z0g rfl rfl) <| Wv rfl (Zh rfl rfl) <| Wv rfl (Zf rfl rfl) ?_
      have ob202 := (ob180.step0 s188)
      obtain ⟨r203, hr204, HF⟩ := Z6 HF
      refine Wc rfl (Zi (vs := [pt b1 0, .bool (bEq x7.s Z2c)]) rfl Z0m) (Zb _ hr204 S189.sub ob202) ?_
      rintro v205 w206 ⟨h207, s208, rfl, ob209⟩
      have S210 := S189.trans s208 (Zy (.inl (by simp)) Z0q)
      refine Z7 ?_
      have ob322 := (ob201.step1 s208 (Ne.symm ne19))
      refine Z06 [0, 2, 4, 8] _ rfl ?_
      exact J320 ⟨h207, r203, HF, rfl, S210, (s188.le).trans s208.le, ob209, ob322⟩
     refine Wp rfl <| Wp rfl <| Wp rfl <| Wv rfl (Zf rfl rfl) <| Wv rfl (Zf rfl rfl) ?_
     have ob211 := (ob180.step0 s188)
     obtain ⟨r212, hr213, HF⟩ := Z6 HF
     refine Wc rfl (Zi (vs := [pt b1 0, .bool false]) rfl Z0m) (Zb _ hr213 S189.sub ob211) ?_
     rintro v214 w215 ⟨h216, s217, rfl, ob218⟩
     have S219 := S189.trans s217 (Zy (.inl (by simp)) Z0q)
     refine Z7 ?_
     have ob323 := ((ob181.step0 s188).step1 s217 (Ne.symm ne19))
     refine Z06 [0, 2, 4, 8] _ rfl ?_
     exact J320 ⟨h216, r212, HF, rfl, S219, (s188.le).trans s217.le, ob218, ob323⟩
    refine Wp rfl <| Wp rfl <| Wp rfl <| Wv rfl (Zf rfl rfl) <| Wm rfl rfl <| Wm rfl rfl <| Wv rfl (Z4o rfl) <| Wm rfl rfl <| Z2m 120 HF rfl (fun HF => ?_) (fun HF => ?_)
    ·refine Wv rfl (Z2 rfl Z4y) <| Wv rfl (Z8 rfl Z3l (OB.cell ob181 (j := 3) rfl)) <| Wv rfl (Z0g rfl rfl) <| Wv rfl (Zh rfl rfl) <| Wv rfl (Zf rfl rfl) ?_
     obtain ⟨r221, hr222, HF⟩ := Z6 HF
     refine Wc rfl (Zi (vs := [pt b1 0, .bool (bEq x7.s Z2c)]) rfl Z0m) (Zb _ hr222 S178.sub ob180) ?_
     rintro v223 w224 ⟨h225, s226, rfl, ob227⟩
     have S228 := S178.trans s226 (Zy (.inl (by simp)) Z0q)
     refine Z7 ?_
     have ob324 := (ob181.step1 s226 (Ne.symm ne19))
     refine Z06 [0, 2, 4, 8] _ rfl ?_
     exact J320 ⟨h225, r221, HF, rfl, S228, s226.le, ob227, ob324⟩
    refine Wp rfl <| Wp rfl <| Wp rfl <| Wv rfl (Zf rfl rfl) <| Wv rfl (Zf rfl rfl) ?_
    obtain ⟨r229, hr230, HF⟩ := Z6 HF
    refine Wc rfl (Zi (vs := [pt b1 0, .bool false]) rfl Z0m) (Zb _ hr230 S178.sub ob180) ?_
    rintro v231 w232 ⟨h233, s234, rfl, ob235⟩
    have S236 := S178.trans s234 (Zy (.inl (by simp)) Z0q)
    refine Z7 ?_
    have ob325 := (ob181.step1 s234 (Ne.symm ne19))
    refine Z06 [0, 2, 4, 8] _ rfl ?_
    exact J320 ⟨h233, r229, HF, rfl, S236, s234.le, ob235, ob325⟩
   intro J326
   refine Z0 <| Wm rfl rfl <| Wv rfl (Z2 rfl Z0z) <| Wv rfl (Z8 rfl Z0h (OB.cell ob136 (j := 5) rfl)) ?_
   obtain ⟨A137, c138, rfl, rs139⟩ := RS.form (rs13.mono ((s17.le).trans ((le26).trans ((s35.le).trans le129))))
   refine Wv rfl (Z0v rfl Zx) <| Wm rfl rfl <| Wv rfl (Z0y rfl rfl) <| Wm rfl rfl <| Z2m 94 HF rfl (fun HF => ?_) (fun HF => ?_)
   ·refine Wv rfl (Z2 rfl Z2d) <| Wv rfl (Z8 rfl Z0t (OB.cell ob136 (j := 0) rfl)) <| Wv rfl (Z0y rfl rfl) <| Wm rfl rfl <| Z2m 98 HF rfl (fun HF => ?_) (fun HF => ?_)
    ·refine Wp rfl <| Wp rfl <| Wp rfl <| Wp rfl <| Wp rfl <| Wp rfl <| Wp rfl <| Wp rfl <| Wv rfl (Zh rfl rfl) <| Wv rfl (Zh rfl rfl) ?_
     obtain ⟨r142, hr143, HF⟩ := Z6 HF
     refine Wc rfl (Zi (vs := [pt b1 0, .bool true]) rfl Z0m) (Zb _ hr143 S130.sub ob135) ?_
     rintro v144 w145 ⟨h146, s147, rfl, ob148⟩
     have S149 := S130.trans s147 (Zy (.inl (by simp)) Z0q)
     refine Z7 ?_
     have ob327 := (ob136.step1 s147 (Ne.symm ne19))
     refine Z06 [0, 2, 4, 7, 8] _ rfl ?_
     exact J326 ⟨h146, r142, HF, rfl, S149, s147.le, ob148, ob327⟩
    refine Wv rfl (Z2 rfl Z88) <| Wv rfl (Z8 rfl Z0t (OB.cell ob136 (j := 1) rfl)) <| Wv rfl (Z0y rfl rfl) <| Wm rfl rfl <| Z2m 102 HF rfl (fun HF => ?_) (fun HF => ?_)
    ·refine Wv rfl (Z2 rfl Z7y) <| Wv rfl (Z8 rfl Z0t (OB.cell ob136 (j := 2) rfl)) <| Wv rfl (Z0y rfl rfl) <| Wv rfl (Zh rfl rfl) <| Wv rfl (Zf rfl rfl) <| Wv rfl (Zh rfl rfl) ?_
     obtain ⟨r151, hr152, HF⟩ := Z6 HF
     refine Wc rfl (Zi (vs := [pt b1 0, .bool ((x7.n : Int) == 0)]) rfl Z0m) (Zb _ hr152 S130.sub ob135) ?_
     rintro v153 w154 ⟨h155, s156, rfl, ob157⟩
     have S158 := S130.trans s156 (Zy (.inl (by simp)) Z0q)
     refine Z7 ?_
     have ob328 := (ob136.step1 s156 (Ne.symm ne19))
     refine Z06 [0, 2, 4, 7, 8] _ rfl ?_
     exact J326 ⟨h155, r151, HF, rfl, S158, s156.le, ob157, ob328⟩
    refine Wp rfl <| Wp rfl <| Wp rfl <| Wv rfl (Zf rfl rfl) <| Wv rfl (Zf rfl rfl) <| Wv rfl (Zh rfl rfl) ?_
    obtain ⟨r159, hr160, HF⟩ := Z6 HF
    refine Wc rfl (Zi (vs := [pt b1 0, .bool false]) rfl Z0m) (Zb _ hr160 S130.sub ob135) ?_
    rintro v161 w162 ⟨h163, s164, rfl, ob165⟩
    have S166 := S130.trans s164 (Zy (.inl (by simp)) Z0q)
    refine Z7 ?_
    have ob329 := (ob136.step1 s164 (Ne.symm ne19))
    refine Z06 [0, 2, 4, 7, 8] _ rfl ?_
    exact J326 ⟨h163, r159, HF, rfl, S166, s164.le, ob165, ob329⟩
   refine Wp rfl <| Wp rfl <| Wp rfl <| Wp rfl <| Wp rfl <| Wp rfl <| Wp rfl <| Wp rfl <| Wp rfl <| Wp rfl <| Wp rfl <| Wp rfl <| Wp rfl <| Wv rfl (Zf rfl rfl) ?_
   obtain ⟨r167, hr168, HF⟩ := Z6 HF
   refine Wc rfl (Zi (vs := [pt b1 0, .bool false]) rfl Z0m) (Zb _ hr168 S130.sub ob135) ?_
   rintro v169 w170 ⟨h171, s172, rfl, ob173⟩
   have S174 := S130.trans s172 (Zy (.inl (by simp)) Z0q)
   refine Z7 ?_
   have ob330 := (ob136.step1 s172 (Ne.symm ne19))
   refine Z06 [0, 2, 4, 7, 8] _ rfl ?_
   exact J326 ⟨h171, r167, HF, rfl, S174, s172.le, ob173, ob330⟩
  intro J331
  refine Z0c <| Za <| Z0 <| Wv rfl (Z2 rfl Z2d) ?_
  have ob38 := (ob29.step1 s35 (Ne.symm ne19))
  refine Wv rfl (Z8 rfl Z0t (OB.cell ob38 (j := 0) rfl)) <| Wv rfl (Z0y rfl rfl) <| Wa rfl rfl <| Z7 <| Z5 <| Z12 HF rfl (fun HF => ?_) (fun HF => ?_)
  ·refine Za <| Z0 <| Wa rfl rfl <| Z7 <| Z5 <| Z0 <| Wm rfl rfl <| Wv rfl (Z2 rfl Z7y) <| Wv rfl (Z8 rfl Z0t (OB.cell ob38 (j := 2) rfl)) <| Wv rfl (ov_geq rfl rfl) <| Wm rfl rfl <| Z2m 34 HF rfl (fun HF => ?_) (fun HF => ?_)
   ·refine Wv rfl (Z2 rfl Z7y) <| Wv rfl (Z8 rfl Z0t (OB.cell ob38 (j := 2) rfl)) <| Wv rfl (Zdo rfl rfl) <| Wv rfl (Zh rfl rfl) <| Wm rfl rfl <| Z2m 39 HF rfl (fun HF => ?_) (fun HF => ?_)
    ·refine Wv rfl (Z2 rfl Z88) <| Wv rfl (Z8 rfl Z0t (OB.cell ob38 (j := 1) rfl)) <| Wv rfl (Z0y rfl rfl) <| Wm rfl rfl <| Z2m 43 HF rfl (fun HF => ?_) (fun HF => ?_)
     ·refine Wp rfl <| Wp rfl <| Wp rfl <| Wv rfl (Zh rfl rfl) <| Wm rfl rfl <| Wp rfl <| Wp rfl <| Wp rfl <| Wp rfl <| Wp rfl <| Wp rfl <| Wp rfl <| Wp rfl <| Wv rfl (Zh rfl rfl) <| Wv rfl (Zh rfl rfl) ?_
      obtain ⟨r43, hr44, HF⟩ := Z6 HF
      refine Wc rfl (Zi (vs := [pt b1 0, .bool true]) rfl Z0m) (Zb _ hr44 S37.sub ob36) ?_
      rintro v45 w46 ⟨h47, s48, rfl, ob49⟩
      have S50 := S37.trans s48 (Zy (.inl (by simp)) Z0q)
      refine Z7 <| Zv ?_
      have ob332 := (ob38.step1 s48 (Ne.symm ne19))
      refine Z06 [0, 2, 4, 6, 7, 8] _ rfl ?_
      exact J331 ⟨h47, 0, false, false, r43, HF, rfl, S50, s48.le, ob49, ob332⟩
     refine Wv rfl (Z2 rfl Z88) <| Wv rfl (Z8 rfl Z0t (OB.cell ob38 (j := 1) rfl)) <| Wv rfl (Z0y rfl rfl) <| Wv rfl (Zf rfl rfl) <| Wm rfl rfl <| Z2m 48 HF rfl (fun HF => ?_) (fun HF => ?_)
     ·refine Wp rfl <| Wp rfl <| Wp rfl <| Wp rfl <| Wp rfl <| Wp rfl <| Wp rfl <| Wp rfl <| Wv rfl (Zh rfl rfl) <| Wv rfl (Zh rfl rfl) ?_
      obtain ⟨r52, hr53, HF⟩ := Z6 HF
      refine Wc rfl (Zi (vs := [pt b1 0, .bool true]) rfl Z0m) (Zb _ hr53 S37.sub ob36) ?_
      rintro v54 w55 ⟨h56, s57, rfl, ob58⟩
      have S59 := S37.trans s57 (Zy (.inl (by simp)) Z0q)
      refine Z7 <| Zv ?_
      have ob333 := (ob38.step1 s57 (Ne.symm ne19))
      refine Z06 [0, 2, 4, 6, 7, 8] _ rfl ?_
      exact J331 ⟨h56, 0, false, false, r52, HF, rfl, S59, s57.le, ob58, ob333⟩
     refine Wv rfl (Z2 rfl Z88) <| Wv rfl (Z8 rfl Z0t (OB.cell ob38 (j := 1) rfl)) <| Wv rfl (Z0y rfl rfl) <| Wm rfl rfl <| Z2m 52 HF rfl (fun HF => ?_) (fun HF => ?_)
     ·refine Wv rfl (Z2 rfl Z7y) <| Wv rfl (Z8 rfl Z0t (OB.cell ob38 (j := 2) rfl)) <| Wv rfl (Zdo rfl rfl) <| Wv rfl (Zh rfl rfl) <| Wv rfl (Zf rfl rfl) <| Wv rfl (Zh rfl rfl) ?_
      obtain ⟨r61, hr62, HF⟩ := Z6 HF
      refine Wc rfl (Zi (vs := [pt b1 0, .bool (decide ((x7.n : Int) ≤ 1))]) rfl Z0m) (Zb _ hr62 S37.sub ob36) ?_
      rintro v63 w64 ⟨h65, s66, rfl, ob67⟩
      have S68 := S37.trans s66 (Zy (.inl (by simp)) Z0q)
      refine Z7 <| Zv ?_
      have ob334 := (ob38.step1 s66 (Ne.symm ne19))
      refine Z06 [0, 2, 4, 6, 7, 8] _ rfl ?_
      exact J331 ⟨h65, 0, false, false, r61, HF, rfl, S68, s66.le, ob67, ob334⟩
     refine Wp rfl <| Wp rfl <| Wp rfl <| Wv rfl (Zf rfl rfl) <| Wv rfl (Zf rfl rfl) <| Wv rfl (Zh rfl rfl) ?_
     obtain ⟨r69, hr70, HF⟩ := Z6 HF
     refine Wc rfl (Zi (vs := [pt b1 0, .bool false]) rfl Z0m) (Zb _ hr70 S37.sub ob36) ?_
     rintro v71 w72 ⟨h73, s74, rfl, ob75⟩
     have S76 := S37.trans s74 (Zy (.inl (by simp)) Z0q)
     refine Z7 <| Zv ?_
     have ob335 := (ob38.step1 s74 (Ne.symm ne19))
     refine Z06 [0, 2, 4, 6, 7, 8] _ rfl ?_
     exact J331 ⟨h73, 0, false, false, r69, HF, rfl, S76, s74.le, ob75, ob335⟩
    refine Wp rfl <| Wp rfl <| Wp rfl <| Wp rfl <| Wp rfl <| Wp rfl <| Wp rfl <| Wp rfl <| Wp rfl <| Wp rfl <| Wp rfl <| Wp rfl <| Wp rfl <| Wp rfl <| Wp rfl <| Wp rfl <| Wp rfl <| Wp rfl <| Wv rfl (Zf rfl rfl) ?_
    obtain ⟨r77, hr78, HF⟩ := Z6 HF
    refine Wc rfl (Zi (vs := [pt b1 0, .bool false]) rfl Z0m) (Zb _ hr78 S37.sub ob36) ?_
    rintro v79 w80 ⟨h81, s82, rfl, ob83⟩
    have S84 := S37.trans s82 (Zy (.inl (by simp)) Z0q)
    refine Z7 <| Zv ?_
    have ob336 := (ob38.step1 s82 (Ne.symm ne19))
    refine Z06 [0, 2, 4, 6, 7, 8] _ rfl ?_
    exact J331 ⟨h81, 0, false, false, r77, HF, rfl, S84, s82.le, ob83, ob336⟩
   refine Wp rfl <| Wp rfl <| Wp rfl <| Wv rfl (Zf rfl rfl) <| Wm rfl rfl <| Wp rfl <| Wp rfl <| Wp rfl <| Wp rfl <| Wp rfl <| Wp rfl <| Wp rfl <| Wp rfl <| Wp rfl <| Wp rfl <| Wp rfl <| Wp rfl <| Wp rfl <| Wp rfl <| Wp rfl <| Wp rfl <| Wp rfl <| Wp rfl <| Wv rfl (Zf rfl rfl) ?_
   obtain ⟨r85, hr86, HF⟩ := Z6 HF
   refine Wc rfl (Zi (vs := [pt b1 0, .bool false]) rfl Z0m) (Zb _ hr86 S37.sub ob36) ?_
   rintro v87 w88 ⟨h89, s90, rfl, ob91⟩
   have S92 := S37.trans s90 (Zy (.inl (by simp)) Z0q)
   refine Z7 <| Zv ?_
   have ob337 := (ob38.step1 s90 (Ne.symm ne19))
   refine Z06 [0, 2, 4, 6, 7, 8] _ rfl ?_
   exact J331 ⟨h89, 0, false, false, r85, HF, rfl, S92, s90.le, ob91, ob337⟩
  refine Za <| Z0 <| Wv rfl (Z2 rfl Z2d) <| Wv rfl (Z8 rfl Z0t (OB.cell ob38 (j := 0) rfl)) <| Wv rfl (Z0y rfl rfl) <| Wa rfl rfl <| Z7 <| Z5 <| Z12 HF rfl (fun HF => ?_) (fun HF => ?_)
  ·refine Z0 <| Wa rfl rfl <| Wa rfl rfl <| Z7 <| Zv <| Z06 [0, 2, 4, 6, 7, 8] _ rfl ?_
   exact J331 ⟨h34, 0, true, false, r30.2.2, HF, rfl, S37, Hle.refl _, ob36, ob38⟩
  refine Za <| Z0 <| Wv rfl (Z2 rfl Z2d) <| Wv rfl (Z8 rfl Z0t (OB.cell ob38 (j := 0) rfl)) <| Wv rfl (Z0y rfl rfl) <| Wa rfl rfl <| Z7 <| Z5 <| Z12 HF rfl (fun HF => ?_) (fun HF => ?_)
  ·refine Z0 <| Wa rfl rfl <| Wa rfl rfl <| Wa rfl rfl <| Z7 <| Zv <| Z06 [0, 2, 4, 6, 7, 8] _ rfl ?_
   exact J331 ⟨h34, 0, true, true, r30.2.2, HF, rfl, S37, Hle.refl _, ob36, ob38⟩
  refine Za <| Z0 <| Wv rfl (Z2 rfl Z2d) <| Wv rfl (Z8 rfl Z0t (OB.cell ob38 (j := 0) rfl)) <| Wv rfl (Z0y rfl rfl) <| Wa rfl rfl <| Z7 <| Z5 <| Z12 HF rfl (fun HF => ?_) (fun HF => ?_)
  ·refine Z0 <| Wa rfl rfl <| Wa rfl rfl <| Z7 <| Zv <| Z06 [0, 2, 4, 6, 7, 8] _ rfl ?_
   exact J331 ⟨h34, 1, true, false, r30.2.2, HF, rfl, S37, Hle.refl _, ob36, ob38⟩
  refine Za <| Z0 <| Wv rfl (Z2 rfl Z2d) <| Wv rfl (Z8 rfl Z0t (OB.cell ob38 (j := 0) rfl)) <| Wv rfl (Z0y rfl rfl) <| Wa rfl rfl <| Z7 <| Z5 <| Z12 HF rfl (fun HF => ?_) (fun HF => ?_)
  ·refine Z0 <| Wv rfl (Z2 rfl Z0z) <| Wv rfl (Z8 rfl Z0h (OB.cell ob38 (j := 5) rfl)) ?_
   obtain ⟨A97, c98, rfl, rs99⟩ := RS.form (rs13.mono ((s17.le).trans ((le26).trans s35.le)))
   refine Wv rfl (Z0v rfl Zx) <| Wa rfl rfl <| Wa rfl rfl <| Z7 <| Zv <| Z06 [0, 2, 4, 6, 7, 8] _ rfl ?_
   exact J331 ⟨h34, (x7.args.length : Int), true, false, r30.2.2, HF, rfl, S37, Hle.refl _, ob36, ob38⟩
  refine Z04 (fun E w102 => ∃ (h101 : Hp) (x105 : Bool), Z8l k (Zl k) x7 x10 r30 x105 = some r ∧ E = [(0, pt b1 0), (2, vi x10), (4, pt b15 0), (6, vi 2), (7, .bool false), (8, .bool false), (79, .bool x105)] ∧ Stp [b1] w0 h0 w102 h101 ∧ Hle h34 h101 ∧ OB w102 h101 b1 T2 [vi r30.1, vi r30.2.1, .bool r30.2.2] ∧ OB w102 h101 b15 32 [vi x7.op, vi x7.kind, vi x7.n, .string x7.s, .string x7.f, v12]) ?_ ?_
  ·rintro E w102 ⟨h101, x105, HF, rfl, S104, le103, ob106, ob107⟩
   refine Z12 HF rfl (fun HF => ?_) (fun HF => ?_)
   ·refine Z0 <| Wa rfl rfl <| Z7 <| Zv <| Z06 [0, 2, 4, 6, 7, 8] _ rfl ?_
    exact J331 ⟨h101, 1, false, false, r30.2.2, HF, rfl, S104, le103, ob106, ob107⟩
   refine Z0 <| Wm rfl rfl <| Wv rfl (Z2 rfl Z2d) <| Wv rfl (Z8 rfl Z0t (OB.cell ob107 (j := 0) rfl)) <| Wv rfl (ov_geq rfl rfl) <| Wm rfl rfl <| Z2m 20 HF rfl (fun HF => ?_) (fun HF => ?_)
   ·refine Wv rfl (Z2 rfl Z2d) <| Wv rfl (Z8 rfl Z0t (OB.cell ob107 (j := 0) rfl)) <| Wv rfl (Zdo rfl rfl) <| Wv rfl (Zh rfl rfl) ?_
    obtain ⟨r110, hr111, HF⟩ := Z6 HF
    refine Wc rfl (Zi (vs := [pt b1 0, .bool (decide ((x7.op : Int) ≤ 21))]) rfl Z0m) (Zb _ hr111 S104.sub ob106) ?_
    rintro v112 w113 ⟨h114, s115, rfl, ob116⟩
    have S117 := S104.trans s115 (Zy (.inl (by simp)) Z0q)
    refine Z7 <| Zv ?_
    have ob338 := (ob107.step1 s115 (Ne.symm ne19))
    refine Z06 [0, 2, 4, 6, 7, 8] _ rfl ?_
    exact J331 ⟨h114, 2, false, false, r110, HF, rfl, S117, (le103).trans s115.le, ob116, ob338⟩
   refine Wp rfl <| Wp rfl <| Wp rfl <| Wv rfl (Zf rfl rfl) ?_
   obtain ⟨r118, hr119, HF⟩ := Z6 HF
   refine Wc rfl (Zi (vs := [pt b1 0, .bool false]) rfl Z0m) (Zb _ hr119 S104.sub ob106) ?_
   rintro v120 w121 ⟨h122, s123, rfl, ob124⟩
   have S125 := S104.trans s123 (Zy (.inl (by simp)) Z0q)
   refine Z7 <| Zv ?_
   have ob339 := (ob107.step1 s123 (Ne.symm ne19))
   refine Z06 [0, 2, 4, 6, 7, 8] _ rfl ?_
   exact J331 ⟨h122, 2, false, false, r118, HF, rfl, S125, (le103).trans s123.le, ob124, ob339⟩
  intro J126
  refine Z0 <| Wv rfl (Z2 rfl Z2d) <| Wv rfl (Z8 rfl Z0t (OB.cell ob38 (j := 0) rfl)) <| Wv rfl (Z0y rfl rfl) <| Wm rfl rfl <| Z2m 83 HF rfl (fun HF => ?_) (fun HF => ?_)
  ·refine Wp rfl <| Wp rfl <| Wp rfl <| Wv rfl (Zh rfl rfl) <| Wa rfl rfl <| Z7 <| Z06 [0, 2, 4, 6, 7, 8, 79] _ rfl ?_
   exact J126 ⟨h34, true, HF, rfl, S37, Hle.refl _, ob36, ob38⟩
  refine Wv rfl (Z2 rfl Z2d) <| Wv rfl (Z8 rfl Z0t (OB.cell ob38 (j := 0) rfl)) <| Wv rfl (Z0y rfl rfl) <| Wv rfl (Zf rfl rfl) <| Wa rfl rfl <| Z7 <| Z06 [0, 2, 4, 6, 7, 8, 79] _ rfl ?_
  exact J126 ⟨h34, (x7.op : Int) == 7, HF, rfl, S37, Hle.refl _, ob36, ob38⟩
 intro J340
 refine Za <| Z0 <| Wm rfl rfl <| Wv rfl (Z02 rfl) <| Wv rfl (Z2 rfl Z5z) ?_
 have ob22 := (ob6.step0 s17)
 refine Wv rfl (Z8 rfl Z65 (OB.cell ob22 (j := 2) rfl)) <| Z7 <| Z5 <| Z12 HF rfl (fun HF => ?_) (fun HF => ?_)
 ·refine Z09 <| Zp <| WQ.ret0 rfl ?_
  obtain rfl := Option.some.inj HF
  exact ⟨_, rfl, h0, S21, rfl, ob22⟩
 refine Zm <| Z06 [0, 2, 4] _ rfl ?_
 exact J340 ⟨h0, HF, rfl, S21, Hle.refl _, ob22, ob18⟩
theorem s_ref02_Size_Exprs (k : Nat) (IH : ∀ j, j ≤ k → Z78 (Zl j).ref02_Size_Expr ∧ Z6n (Zl j).ref02_Size_Exprs) : Z6n (Zav k (Zl k)) := by
 intro x3 x4 x5 xs7 x10 r HF w0 h0 b1 T2 v8 hs0 rs9 ob6
 have S0 : Stp [b1] w0 h0 w0 h0 := Stp.refl hs0 _
 have lt11 : b1 < w0.heap.size := OB.lt ob6
 refine Z66 (n := 27) Tryz.func61 rfl Tryz.ntmps61 rfl [(0, pt b1 0), (1, v8), (2, vi x10)] rfl <| Za <| Z0 <| Wa rfl rfl <| Z7 <| Z5 <| Z0c <| Z4j <| Z8e [0, 1, 2, 6] [(0, pt b1 0), (1, v8), (2, vi x10), (6, vi 0)] rfl <| Z4m (K := k) (fun j E w13 => ∃ (h12 : Hp) (x16 : Int) (x17 : Int) (x18 : Int) (x19 : Bool), (Zl j).ref02_Size_Exprs_l1 xs7 x10 x16 x17 x18 x19 = some r ∧ E = [(0, pt b1 0), (1, v8), (2, vi x10), (6, vi x16)] ∧ Stp [b1] w0 h0 w13 h12 ∧ Hle h0 h12 ∧ OB w13 h12 b1 T2 [vi x17, vi x18, .bool x19]) ?_ ?_ (j := k) (Nat.le_refl _) ?_
 ·rintro E w13 ⟨_, _, _, _, _, HF, _⟩; cases HF
 ·rintro j21 hj23 IHL22 E w13 ⟨h12, x16, x17, x18, x19, HF, rfl, S15, le14, ob20⟩
  refine Z04 (fun E w37 => ∃ (h36 : Hp), Z7p j21 (Zl j21) xs7 x10 x16 x17 x18 x19 = some r ∧ E = [(0, pt b1 0), (1, v8), (2, vi x10), (6, vi x16)] ∧ Stp [b1] w0 h0 w37 h36 ∧ Hle h12 h36 ∧ OB w37 h36 b1 T2 [vi x17, vi x18, .bool x19]) ?_ ?_
  ·rintro E w37 ⟨h36, HF, rfl, S39, le38, ob40⟩
   refine Za <| Z0c <| Z0 <| Wm rfl rfl <| Wm rfl rfl <| Wm rfl rfl ?_
   obtain ⟨A41, c42, rfl, rs43⟩ := RS.form (rs9.mono ((le14).trans le38))
   obtain ⟨e44, he45, HF⟩ := Z6 HF
   obtain ⟨b46, o47, rfl, h49, h50, ra48⟩ := RS.atO rs43 he45
   obtain ⟨cs51, r52, hc53⟩ := ra48
   refine Wv rfl (Zk rfl rfl Zx Zu h49 h50) <| Wv rfl (Z0w (cs := cs51) rfl Z1u (by rw [Rp.len r52]; exact Zu) (fun j v hv => S39.sub.at_ _ _ _ (hc53 j v hv))) <| Wm rfl rfl ?_
   obtain ⟨r54, hr55, HF⟩ := Z6 HF
   refine Wc rfl (Zi (vs := [pt b1 0, .agg cs51.toArray, vi x10]) rfl t_ent_28) ((IH _ (Nat.le_trans (Nat.le_of_succ_le hj23) (Nat.le_refl _))).1 hr55 S39.sub r52 ob40) ?_
   rintro v56 w57 ⟨h58, s59, rfl, ob60⟩
   have S61 := S39.trans s59 (Zy (.inl (by simp)) Z0q)
   refine Z7 <| Zv <| Z5 <| Z0 <| Wm rfl rfl <| Wv rfl (Z2v rfl rfl) <| Wa rfl rfl <| Z7 <| Z2x <| Z8e [0, 1, 2, 6] [(0, pt b1 0), (1, sl b46 o47 (xs7).length c42), (2, vi x10), (6, vi (IntKind.i64.wrap (x16 + 1)))] rfl ?_
   exact IHL22 j21 (Nat.le_refl _) _ _ ⟨h58, IntKind.i64.wrap (x16 + 1), r54.1, r54.2.1, r54.2.2, HF, rfl, S61, (le14).trans ((le38).trans s59.le), ob60⟩
  intro J62
  refine Z04 (fun E w29 => ∃ (h28 : Hp) (x32 : Bool), Z3m j21 (Zl j21) xs7 x10 x16 x17 x18 x19 x32 = some r ∧ E = [(0, pt b1 0), (1, v8), (2, vi x10), (6, vi x16), (17, .bool x32)] ∧ Stp [b1] w0 h0 w29 h28 ∧ Hle h12 h28 ∧ OB w29 h28 b1 T2 [vi x17, vi x18, .bool x19]) ?_ ?_
  ·rintro E w29 ⟨h28, x32, HF, rfl, S31, le30, ob33⟩
   refine Z12 HF rfl (fun HF => ?_) (fun HF => ?_)
   ·refine Zm <| Z06 [0, 1, 2, 6] _ rfl ?_
    exact J62 ⟨h28, HF, rfl, S31, le30, ob33⟩
   refine Z4b <| Zr <| Zr <| Z0x <| Z5v rfl ?_
   obtain rfl := Option.some.inj HF
   exact ⟨_, rfl, h28, S31, rfl, ob33⟩
  intro J35
  refine Z0 <| Wm rfl rfl <| Wm rfl rfl ?_
  obtain ⟨A24, c25, rfl, rs26⟩ := RS.form (rs9.mono (le14))
  refine Wv rfl (Z0v rfl Zx) <| Wv rfl (Z6q rfl rfl) <| Wm rfl rfl <| Z2m 11 HF rfl (fun HF => ?_) (fun HF => ?_)
  ·refine Wm rfl rfl <| Wv rfl (Z02 rfl) <| Wv rfl (Z2 rfl Z5z) <| Wv rfl (Z8 rfl Z65 (OB.cell ob20 (j := 2) rfl)) <| Wv rfl (Z4o rfl) <| Wv rfl (Zh rfl rfl) <| Z7 <| Z06 [0, 1, 2, 6, 17] _ rfl ?_
   exact J35 ⟨h12, !x19, HF, rfl, S15, Hle.refl _, ob20⟩
  refine Wp rfl <| Wp rfl <| Wp rfl <| Wp rfl <| Wp rfl <| Wv rfl (Zf rfl rfl) <| Z7 <| Z06 [0, 1, 2, 6, 17] _ rfl ?_
  exact J35 ⟨h12, false, HF, rfl, S15, Hle.refl _, ob20⟩
 exact ⟨h0, 0, x3, x4, x5, HF, rfl, S0, Hle.refl _, ob6⟩
theorem Zdf : ∀ k j, j ≤ k → Z78 (Zl j).ref02_Size_Expr ∧ Z6n (Zl j).ref02_Size_Exprs := by
  intro k
  induction k with
  | zero =>
    intro j hj
    obtain rfl : j = 0 := by omega
    exact ⟨(fun _ _ _ _ _ _ => by intro h; cases h), (fun _ _ _ _ _ _ => by intro h; cases h)⟩
  | succ k ih =>
    intro j hj
    by_cases h : j ≤ k
    · exact ih j h
    · obtain rfl : j = k + 1 := by omega
      exact ⟨s_ref02_Size_Expr k ih, s_ref02_Size_Exprs k ih⟩
theorem ok_ref02_Size_Expr (k : Nat) : Z78 (Z98 k) := (Zdf k k (Nat.le_refl _)).1
theorem Za4 (k : Nat) : Z6n (Z17 k) := (Zdf k k (Nat.le_refl _)).2

def Z8i (φ : Int → Int → Bool → (List ByteArray) → Int → Option Bool) : Prop := ∀ ⦃x3 : Int⦄ ⦃x4 : Int⦄ ⦃x5 : Bool⦄ ⦃xs7 : List ByteArray⦄ ⦃x10 : Int⦄ ⦃r : Bool⦄, φ x3 x4 x5 xs7 x10 = some r → ∀ ⦃w0 : World⦄ ⦃h0 : Hp⦄ ⦃b1 : Nat⦄ ⦃T2 : Nat⦄ ⦃v8 : Value⦄, Sub h0 w0 → RS h0 v8 xs7 → OB w0 h0 b1 T2 [.int .i64 x3, .int .i64 x4, .bool x5] →
  Calls Tryz.prog 97 #[.pointer (some ⟨b1, 0, none⟩), v8, .int .i64 x10] w0 fun e w1 => ∃ v, e = .returned v ∧ ∃ h1, Stp [b1] w0 h0 w1 h1 ∧ v = .tuple #[] ∧ (OB w1 h1 b1 T2 [.int .i64 x3, .int .i64 x4, .bool r])
theorem s_ref02_Size_Named (k : Nat) (IH : ∀ j, j ≤ k → Z8i (Z0u j).ref02_Size_Named) : Z8i (Z6e k (Z0u k)) := by
 intro x3 x4 x5 xs7 x10 r HF w0 h0 b1 T2 v8 hs0 rs9 ob6
 have S0 : Stp [b1] w0 h0 w0 h0 := Stp.refl hs0 _
 have lt11 : b1 < w0.heap.size := OB.lt ob6
 refine Z66 (n := 33) Tryz.func97 rfl Tryz.ntmps97 rfl [(0, pt b1 0), (1, v8), (2, vi x10)] rfl <| Za <| Z0 <| Wm rfl rfl <| Wm rfl rfl ?_
 obtain ⟨A12, c13, rfl, rs14⟩ := RS.form rs9
 refine Wv rfl (Z0v rfl Z26) <| Wm rfl rfl <| Wv rfl (Z0y rfl rfl) ?_
 obtain ⟨r15, hr16, HF⟩ := Z6 HF
 refine Wc rfl (Zi (vs := [pt b1 0, .bool (((xs7.length : Int) : Int) == x10)]) rfl Z0m) (Zb _ hr16 S0.sub ob6) ?_
 rintro v17 w18 ⟨h19, s20, rfl, ob21⟩
 have S22 := S0.trans s20 (Zy (.inl (by simp)) Z0q)
 refine Z7 <| Z5 <| Za <| Z0 <| Wa rfl rfl <| Z7 <| Z5 <| Z0c <| Z4j <| Z8e [0, 1, 6] [(0, pt b1 0), (1, .slice A12 (xs7).length c13), (6, vi 0)] rfl <| Z4m (K := k) (fun j E w24 => ∃ (h23 : Hp) (x27 : Int) (x28 : Bool), (Z0u j).ref02_Size_Named_l1 x3 x4 xs7 x27 x28 = some r ∧ E = [(0, pt b1 0), (1, .slice A12 (xs7).length c13), (6, vi x27)] ∧ Stp [b1] w0 h0 w24 h23 ∧ Hle h19 h23 ∧ OB w24 h23 b1 T2 [vi x3, vi x4, .bool x28]) ?_ ?_ (j := k) (Nat.le_refl _) ?_
 ·rintro E w24 ⟨_, _, _, HF, _⟩; cases HF
 ·rintro j30 hj32 IHL31 E w24 ⟨h23, x27, x28, HF, rfl, S26, le25, ob29⟩
  refine Z04 (fun E w43 => ∃ (h42 : Hp), Zag j30 (Z0u j30) x3 x4 xs7 x27 x28 = some r ∧ E = [(0, pt b1 0), (1, .slice A12 (xs7).length c13), (6, vi x27)] ∧ Stp [b1] w0 h0 w43 h42 ∧ Hle h23 h42 ∧ OB w43 h42 b1 T2 [vi x3, vi x4, .bool x28]) ?_ ?_
  ·rintro E w43 ⟨h42, HF, rfl, S45, le44, ob46⟩
   refine Za <| Z0c <| Z0 <| Wm rfl rfl <| Wm rfl rfl <| Wm rfl rfl ?_
   obtain ⟨e47, he48, HF⟩ := Z6 HF
   obtain ⟨b49, o50, rfl, h52, h53, ra51⟩ := RS.atO (rs14.mono ((s20.le).trans ((le25).trans le44))) he48
   obtain ⟨cs54, r55, hc56⟩ := ra51
   obtain rfl := (show cs54 = _ from r55)
   refine Wv rfl (Zk rfl rfl Z26 Z6k h52 h53) <| Wv rfl (Z8 rfl Z3l (S45.sub.at_ _ _ _ (hc56 0 _ rfl))) ?_
   obtain ⟨r57, hr58, HF⟩ := Z6 HF
   refine Wc rfl (Zi (vs := [.string e47]) rfl t_ent_60) (Zbn _ hr58 S45.sub) ?_
   rintro _ w60 ⟨h61, s62, rfl⟩
   have S63 := S45.trans0 s62
   have ob64 := (ob46.step0 s62)
   obtain ⟨r65, hr66, HF⟩ := Z6 HF
   refine Wc rfl (Zi (vs := [pt b1 0, .bool r57]) rfl Z0m) (Zb _ hr66 S63.sub ob64) ?_
   rintro v67 w68 ⟨h69, s70, rfl, ob71⟩
   have S72 := S63.trans s70 (Zy (.inl (by simp)) Z0q)
   refine Z7 <| Zv <| Z5 <| Z0 <| Wm rfl rfl <| Wv rfl (Z2v rfl rfl) <| Wa rfl rfl <| Z7 <| Z2x <| Z8e [0, 1, 6] [(0, pt b1 0), (1, sl b49 o50 (xs7).length c13), (6, vi (IntKind.i64.wrap (x27 + 1)))] rfl ?_
   exact IHL31 j30 (Nat.le_refl _) _ _ ⟨h69, IntKind.i64.wrap (x27 + 1), r65, HF, rfl, S72, (le25).trans ((le44).trans ((s62.le).trans s70.le)), ob71⟩
  intro J73
  refine Z04 (fun E w35 => ∃ (h34 : Hp) (x38 : Bool), Z4t j30 (Z0u j30) x3 x4 xs7 x27 x28 x38 = some r ∧ E = [(0, pt b1 0), (1, .slice A12 (xs7).length c13), (6, vi x27), (23, .bool x38)] ∧ Stp [b1] w0 h0 w35 h34 ∧ Hle h23 h34 ∧ OB w35 h34 b1 T2 [vi x3, vi x4, .bool x28]) ?_ ?_
  ·rintro E w35 ⟨h34, x38, HF, rfl, S37, le36, ob39⟩
   refine Z12 HF rfl (fun HF => ?_) (fun HF => ?_)
   ·refine Zm <| Z06 [0, 1, 6] _ rfl ?_
    exact J73 ⟨h34, HF, rfl, S37, le36, ob39⟩
   refine Z4b <| Zr <| Zr <| Z0x <| Z5v rfl ?_
   obtain rfl := Option.some.inj HF
   exact ⟨_, rfl, h34, S37, rfl, ob39⟩
  intro J41
  refine Z0 <| Wm rfl rfl <| Wm rfl rfl <| Wv rfl (Z0v rfl Z26) <| Wv rfl (Z6q rfl rfl) <| Wm rfl rfl <| Z2m 17 HF rfl (fun HF => ?_) (fun HF => ?_)
  ·refine Wm rfl rfl <| Wv rfl (Z02 rfl) <| Wv rfl (Z2 rfl Z5z) <| Wv rfl (Z8 rfl Z65 (OB.cell ob29 (j := 2) rfl)) <| Wv rfl (Z4o rfl) <| Wv rfl (Zh rfl rfl) <| Z7 <| Z06 [0, 1, 6, 23] _ rfl ?_
   exact J41 ⟨h23, !x28, HF, rfl, S26, Hle.refl _, ob29⟩
  refine Wp rfl <| Wp rfl <| Wp rfl <| Wp rfl <| Wp rfl <| Wv rfl (Zf rfl rfl) <| Z7 <| Z06 [0, 1, 6, 23] _ rfl ?_
  exact J41 ⟨h23, false, HF, rfl, S26, Hle.refl _, ob29⟩
 exact ⟨h19, 0, r15, HF, rfl, S22, Hle.refl _, ob21⟩
theorem all_ref02_Size_Named : ∀ k j, j ≤ k → Z8i (Z0u j).ref02_Size_Named := by
  intro k
  induction k with
  | zero =>
    intro j hj
    obtain rfl : j = 0 := by omega
    exact (fun _ _ _ _ _ _ => by intro h; cases h)
  | succ k ih =>
    intro j hj
    by_cases h : j ≤ k
    · exact ih j h
    · obtain rfl : j = k + 1 := by omega
      exact s_ref02_Size_Named k ih
theorem ok_ref02_Size_Named (k : Nat) : Z8i (Zax k) := (all_ref02_Size_Named k k (Nat.le_refl _))

def Z6b (φ : Int → Int → Bool → Ar → Bool → Int → Option (Int × Int × Bool)) : Prop := ∀ ⦃x3 : Int⦄ ⦃x4 : Int⦄ ⦃x5 : Bool⦄ ⦃x7 : Ar⦄ ⦃x10 : Bool⦄ ⦃x11 : Int⦄ ⦃r : Int × Int × Bool⦄, φ x3 x4 x5 x7 x10 x11 = some r → ∀ ⦃w0 : World⦄ ⦃h0 : Hp⦄ ⦃b1 : Nat⦄ ⦃T2 : Nat⦄ ⦃cs8 : List Value⦄, Sub h0 w0 → Rp.R h0 x7 cs8 → OB w0 h0 b1 T2 [.int .i64 x3, .int .i64 x4, .bool x5] →
  Calls Tryz.prog 99 #[.pointer (some ⟨b1, 0, none⟩), .agg cs8.toArray, .bool x10, .int .i64 x11] w0 fun e w1 => ∃ v, e = .returned v ∧ ∃ h1, Stp [b1] w0 h0 w1 h1 ∧ v = .tuple #[] ∧ (OB w1 h1 b1 T2 [.int .i64 r.1, .int .i64 r.2.1, .bool r.2.2])
def Z5o (φ : Int → Int → Bool → St → Int → Option (Int × Int × Bool)) : Prop := ∀ ⦃x3 : Int⦄ ⦃x4 : Int⦄ ⦃x5 : Bool⦄ ⦃x7 : St⦄ ⦃x10 : Int⦄ ⦃r : Int × Int × Bool⦄, φ x3 x4 x5 x7 x10 = some r → ∀ ⦃w0 : World⦄ ⦃h0 : Hp⦄ ⦃b1 : Nat⦄ ⦃T2 : Nat⦄ ⦃cs8 : List Value⦄, Sub h0 w0 → Rp.R h0 x7 cs8 → OB w0 h0 b1 T2 [.int .i64 x3, .int .i64 x4, .bool x5] →
  Calls Tryz.prog 75 #[.pointer (some ⟨b1, 0, none⟩), .agg cs8.toArray, .int .i64 x10] w0 fun e w1 => ∃ v, e = .returned v ∧ ∃ h1, Stp [b1] w0 h0 w1 h1 ∧ v = .tuple #[] ∧ (OB w1 h1 b1 T2 [.int .i64 r.1, .int .i64 r.2.1, .bool r.2.2])
def Z5d (φ : Int → Int → Bool → (List St) → Int → Option (Int × Int × Bool)) : Prop := ∀ ⦃x3 : Int⦄ ⦃x4 : Int⦄ ⦃x5 : Bool⦄ ⦃xs7 : List St⦄ ⦃x10 : Int⦄ ⦃r : Int × Int × Bool⦄, φ x3 x4 x5 xs7 x10 = some r → ∀ ⦃w0 : World⦄ ⦃h0 : Hp⦄ ⦃b1 : Nat⦄ ⦃T2 : Nat⦄ ⦃v8 : Value⦄, Sub h0 w0 → RS h0 v8 xs7 → OB w0 h0 b1 T2 [.int .i64 x3, .int .i64 x4, .bool x5] →
  Calls Tryz.prog 52 #[.pointer (some ⟨b1, 0, none⟩), v8, .int .i64 x10] w0 fun e w1 => ∃ v, e = .returned v ∧ ∃ h1, Stp [b1] w0 h0 w1 h1 ∧ v = .tuple #[] ∧ (OB w1 h1 b1 T2 [.int .i64 r.1, .int .i64 r.2.1, .bool r.2.2])
theorem s_ref02_Size_arm (k : Nat) (IH : ∀ j, j ≤ k → Z6b (Ze j).ref02_Size_arm ∧ Z5o (Ze j).ref02_Size_stmt ∧ Z5d (Ze j).ref02_Size_Stmts) : Z6b (Z89 k (Ze k)) := by
 intro x3 x4 x5 x7 x10 x11 r HF w0 h0 b1 T2 cs8 hs0 r9 ob6
 have S0 : Stp [b1] w0 h0 w0 h0 := Stp.refl hs0 _
 have lt12 : b1 < w0.heap.size := OB.lt ob6
 refine Z66 (n := 77) Tryz.func99 rfl Tryz.ntmps99 rfl [(0, pt b1 0), (1, .agg cs8.toArray), (2, .bool x10), (3, vi x11)] rfl <| Za <| Z0 ?_
 obtain ⟨v13, v15, v17, rfl, rs14, rs16, rs18⟩ := rp_Ar.1 r9
 refine Zd2 (cs := [v13, v15, v17]) rfl rfl rfl rfl S0.sub (fun w19 b20 hb21 s22 ob23 => ?_)
 have ne24 : b1 ≠ b20 := ob6.ne_new hb21
 have g25 : w0.heap.size ≤ b20 := by rw [hb21]; exact S0.size
 have S26 := S0.trans0 s22
 refine Z7 <| Z5 <| Za <| Z0 <| Wm rfl rfl <| Wm rfl rfl ?_
 have ob27 := (ob6.step0 s22)
 obtain ⟨r28, hr29, HF⟩ := Z6 HF
 refine Wc rfl (Zi (vs := [pt b1 0, vi x11]) rfl t_ent_58) (Zb4 _ hr29 S26.sub ob27) ?_
 rintro v30 w31 ⟨h32, s33, rfl, ob34⟩
 have S35 := S26.trans s33 (Zy (.inl (by simp)) Z0q)
 refine Z7 <| Z5 <| Z04 (fun E w143 => ∃ (h142 : Hp) (x146 : Bool), Z22 k (Ze k) x7 x11 r28 x146 = some r ∧ E = [(0, pt b1 0), (3, vi x11), (5, pt b20 0)] ∧ Stp [b1] w0 h0 w143 h142 ∧ Hle h32 h142 ∧ OB w143 h142 b1 T2 [vi r28.1, vi r28.2.1, .bool x146] ∧ OB w143 h142 b20 47 [v13, v15, v17]) ?_ ?_
 ·rintro E w143 ⟨h142, x146, HF, rfl, S145, le144, ob147, ob148⟩
  refine Za <| Za <| Z0 <| Wa rfl rfl <| Z7 <| Z5 <| Z0c <| Z4j <| Z8e [0, 3, 5, 8] [(0, pt b1 0), (3, vi x11), (5, pt b20 0), (8, vi 0)] rfl <| Z4m (K := k) (fun j E w150 => ∃ (h149 : Hp) (x153 : Int) (x154 : Bool) (xs156 : List Int) (v157 : Value), (Ze j).ref02_Size_arm_l2 x7 x11 r28 x153 x154 xs156 = some r ∧ E = [(0, pt b1 0), (3, vi x11), (5, pt b20 0), (8, vi x153)] ∧ Stp [b1] w0 h0 w150 h149 ∧ Hle h142 h149 ∧ RS h149 v157 xs156 ∧ OB w150 h149 b1 T2 [vi r28.1, vi r28.2.1, .bool x154] ∧ OB w150 h149 b20 47 [v13, v157, v17]) ?_ ?_ (j := k) (Nat.le_refl _) ?_
  ·rintro E w150 ⟨_, _, _, _, _, HF, _⟩; cases HF
  ·rintro j160 hj162 IHL161 E w150 ⟨h149, x153, x154, xs156, v157, HF, rfl, S152, le151, rs158, ob155, ob159⟩
   refine Z04 (fun E w194 => ∃ (h193 : Hp), Zc1 j160 (Ze j160) x7 x11 r28 x153 x154 xs156 = some r ∧ E = [(0, pt b1 0), (3, vi x11), (5, pt b20 0), (8, vi x153)] ∧ Stp [b1] w0 h0 w194 h193 ∧ Hle h149 h193 ∧ OB w194 h193 b1 T2 [vi r28.1, vi r28.2.1, .bool x154] ∧ OB w194 h193 b20 47 [v13, v157, v17]) ?_ ?_
   ·rintro E w194 ⟨h193, HF, rfl, S196, le195, ob197, ob198⟩
    refine Za <| Z0c <| Z0 <| Wm rfl rfl <| Wv rfl (Z2 rfl Z49) <| Wv rfl (Z8 rfl Z9g (OB.cell ob198 (j := 1) rfl)) <| Wm rfl rfl ?_
    obtain ⟨A199, c200, rfl, rs201⟩ := RS.form (rs158.mono (le195))
    obtain ⟨e202, he203, HF⟩ := Z6 HF
    obtain ⟨b204, o205, rfl, h207, h208, ra206⟩ := RS.atO rs201 he203
    obtain ⟨cs209, r210, hc211⟩ := ra206
    obtain rfl := (show cs209 = _ from r210)
    refine Wv rfl (Zk rfl rfl Z43 Zeb h207 h208) <| Wv rfl (Z8 rfl Z0t (S196.sub.at_ _ _ _ (hc211 0 _ rfl))) ?_
    obtain ⟨r212, hr213, HF⟩ := Z6 HF
    refine Wc rfl (Zi (vs := [vi e202]) rfl t_ent_98) (ok_ref02_label _ hr213 S196.sub) ?_
    rintro _ w215 ⟨h216, s217, rfl⟩
    have S218 := S196.trans0 s217
    have ob219 := (ob197.step0 s217)
    obtain ⟨r220, hr221, HF⟩ := Z6 HF
    refine Wc rfl (Zi (vs := [pt b1 0, .bool r212]) rfl Z0m) (Zb _ hr221 S218.sub ob219) ?_
    rintro v222 w223 ⟨h224, s225, rfl, ob226⟩
    have S227 := S218.trans s225 (Zy (.inl (by simp)) Z0q)
    refine Z7 <| Zv <| Z5 <| Z0 <| Wm rfl rfl <| Wv rfl (Z2v rfl rfl) <| Wa rfl rfl <| Z7 ?_
    have ob229 := ((ob198.step0 s217).step1 s225 (Ne.symm ne24))
    refine Z2x <| Z8e [0, 3, 5, 8] [(0, pt b1 0), (3, vi x11), (5, pt b20 0), (8, vi (IntKind.i64.wrap (x153 + 1)))] rfl ?_
    exact IHL161 j160 (Nat.le_refl _) _ _ ⟨h224, IntKind.i64.wrap (x153 + 1), r220, xs156, sl b204 o205 (xs156).length c200, HF, rfl, S227, (le151).trans ((le195).trans ((s217.le).trans s225.le)), (rs201.mono ((s217.le).trans s225.le)), ob226, ob229⟩
   intro J228
   refine Z04 (fun E w168 => ∃ (h167 : Hp) (x171 : Bool), Z5q j160 (Ze j160) x7 x11 r28 x153 x154 xs156 x171 = some r ∧ E = [(0, pt b1 0), (3, vi x11), (5, pt b20 0), (8, vi x153), (54, .bool x171)] ∧ Stp [b1] w0 h0 w168 h167 ∧ Hle h149 h167 ∧ OB w168 h167 b1 T2 [vi r28.1, vi r28.2.1, .bool x154] ∧ OB w168 h167 b20 47 [v13, v157, v17]) ?_ ?_
   ·rintro E w168 ⟨h167, x171, HF, rfl, S170, le169, ob172, ob173⟩
    refine Z12 HF rfl (fun HF => ?_) (fun HF => ?_)
    ·refine Zm <| Z06 [0, 3, 5, 8] _ rfl ?_
     exact J228 ⟨h167, HF, rfl, S170, le169, ob172, ob173⟩
    refine Z4b <| Zr <| Zr <| Z0x <| Z5 <| Za <| Z0 <| Wm rfl rfl <| Wv rfl (Z2 rfl Z50) <| Wv rfl (Z8 rfl Z0h (OB.cell ob173 (j := 0) rfl)) <| Wm rfl rfl <| Wv rfl (Z2v rfl rfl) ?_
    obtain ⟨r175, hr176, HF⟩ := Z6 HF
    refine Wc rfl (Zi (vs := [pt b1 0, v13, vi (IntKind.i64.wrap (x11 + 1))]) rfl t_ent_61) (Za4 _ hr176 S170.sub (rs14.mono ((s22.le).trans ((s33.le).trans ((le144).trans ((le151).trans le169))))) ob172) ?_
    rintro v177 w178 ⟨h179, s180, rfl, ob181⟩
    have S182 := S170.trans s180 (Zy (.inl (by simp)) Z0q)
    refine Z7 <| Z5 <| Z0 <| Wm rfl rfl <| Wv rfl (Z2 rfl Z99) ?_
    have ob183 := (ob173.step1 s180 (Ne.symm ne24))
    refine Wv rfl (Z8 rfl Z2r (OB.cell ob183 (j := 2) rfl)) <| Wm rfl rfl <| Wv rfl (Z2v rfl rfl) ?_
    obtain ⟨r184, hr185, HF⟩ := Z6 HF
    refine Wc rfl (Zi (vs := [pt b1 0, v17, vi (IntKind.i64.wrap (x11 + 1))]) rfl t_ent_52) ((IH _ (Nat.le_trans (Nat.le_of_succ_le hj162) (Nat.le_refl _))).2.2 hr185 S182.sub (rs18.mono ((s22.le).trans ((s33.le).trans ((le144).trans ((le151).trans ((le169).trans s180.le)))))) ob181) ?_
    rintro v186 w187 ⟨h188, s189, rfl, ob190⟩
    have S191 := S182.trans s189 (Zy (.inl (by simp)) Z0q)
    refine Z7 <| Z5v rfl ?_
    obtain rfl := Option.some.inj HF
    exact ⟨_, rfl, h188, S191, rfl, ob190⟩
   intro J192
   refine Z0 <| Wm rfl rfl <| Wv rfl (Z2 rfl Z49) <| Wv rfl (Z8 rfl Z9g (OB.cell ob159 (j := 1) rfl)) ?_
   obtain ⟨A163, c164, rfl, rs165⟩ := RS.form rs158
   refine Wv rfl (Z0v rfl Z43) <| Wv rfl (Z6q rfl rfl) <| Wm rfl rfl <| Z2m 48 HF rfl (fun HF => ?_) (fun HF => ?_)
   ·refine Wm rfl rfl <| Wv rfl (Z02 rfl) <| Wv rfl (Z2 rfl Z5z) <| Wv rfl (Z8 rfl Z65 (OB.cell ob155 (j := 2) rfl)) <| Wv rfl (Z4o rfl) <| Wv rfl (Zh rfl rfl) <| Z7 <| Z06 [0, 3, 5, 8, 54] _ rfl ?_
    exact J192 ⟨h149, !x154, HF, rfl, S152, Hle.refl _, ob155, ob159⟩
   refine Wp rfl <| Wp rfl <| Wp rfl <| Wp rfl <| Wp rfl <| Wv rfl (Zf rfl rfl) <| Z7 <| Z06 [0, 3, 5, 8, 54] _ rfl ?_
   exact J192 ⟨h149, false, HF, rfl, S152, Hle.refl _, ob155, ob159⟩
  exact ⟨h142, 0, x146, x7.labels, v15, HF, rfl, S145, Hle.refl _, (rs16.mono ((s22.le).trans ((s33.le).trans le144))), ob147, ob148⟩
 intro J230
 refine Z0 <| Wm rfl rfl <| Wm rfl rfl <| Wm rfl rfl <| Z2m 14 HF rfl (fun HF => ?_) (fun HF => ?_)
 ·refine Wv rfl (Z2 rfl Z50) ?_
  have ob37 := (ob23.step1 s33 (Ne.symm ne24))
  refine Wv rfl (Z8 rfl Z0h (OB.cell ob37 (j := 0) rfl)) ?_
  obtain ⟨A38, c39, rfl, rs40⟩ := RS.form (rs14.mono ((s22.le).trans s33.le))
  refine Wv rfl (Z0v rfl Zx) <| Wv rfl (Z0y rfl rfl) <| Wv rfl (Zh rfl rfl) <| Wm rfl rfl <| Z2m 20 HF rfl (fun HF => ?_) (fun HF => ?_)
  ·refine Wv rfl (Z2 rfl Z49) <| Wv rfl (Z8 rfl Z9g (OB.cell ob37 (j := 1) rfl)) ?_
   obtain ⟨A42, c43, rfl, rs44⟩ := RS.form (rs16.mono ((s22.le).trans s33.le))
   refine Wv rfl (Z0v rfl Z43) <| Wv rfl (Z0y rfl rfl) <| Wv rfl (Zh rfl rfl) <| Wm rfl rfl <| Z2m 26 HF rfl (fun HF => ?_) (fun HF => ?_)
   ·refine Wp rfl <| Wp rfl <| Wp rfl <| Wp rfl <| Wp rfl <| Wp rfl <| Wp rfl <| Wp rfl <| Wp rfl <| Wp rfl <| Wp rfl <| Wp rfl <| Wp rfl <| Wp rfl <| Wv rfl (Zh rfl rfl) ?_
    obtain ⟨r46, hr47, HF⟩ := Z6 HF
    refine Wc rfl (Zi (vs := [pt b1 0, .bool true]) rfl Z0m) (Zb _ hr47 S35.sub ob34) ?_
    rintro v48 w49 ⟨h50, s51, rfl, ob52⟩
    have S53 := S35.trans s51 (Zy (.inl (by simp)) Z0q)
    refine Z7 ?_
    have ob231 := (ob37.step1 s51 (Ne.symm ne24))
    refine Z06 [0, 3, 5] _ rfl ?_
    exact J230 ⟨h50, r46, HF, rfl, S53, s51.le, ob52, ob231⟩
   refine Wm rfl rfl <| Wv rfl (Z4o rfl) <| Wm rfl rfl <| Z2m 29 HF rfl (fun HF => ?_) (fun HF => ?_)
   ·refine Wv rfl (Z2 rfl Z50) <| Wv rfl (Z8 rfl Z0h (OB.cell ob37 (j := 0) rfl)) <| Wv rfl (Z0v rfl Zx) <| Wv rfl (Z0y rfl rfl) <| Wv rfl (Zh rfl rfl) <| Wm rfl rfl <| Z2m 35 HF rfl (fun HF => ?_) (fun HF => ?_)
    ·refine Wv rfl (Z2 rfl Z49) <| Wv rfl (Z8 rfl Z9g (OB.cell ob37 (j := 1) rfl)) <| Wv rfl (Z0v rfl Z43) <| Wv rfl (Zao rfl rfl) <| Wv rfl (Zh rfl rfl) <| Wv rfl (Zf rfl rfl) ?_
     obtain ⟨r56, hr57, HF⟩ := Z6 HF
     refine Wc rfl (Zi (vs := [pt b1 0, .bool (decide ((0 : Int) < (x7.labels.length : Int)))]) rfl Z0m) (Zb _ hr57 S35.sub ob34) ?_
     rintro v58 w59 ⟨h60, s61, rfl, ob62⟩
     have S63 := S35.trans s61 (Zy (.inl (by simp)) Z0q)
     refine Z7 ?_
     have ob232 := (ob37.step1 s61 (Ne.symm ne24))
     refine Z06 [0, 3, 5] _ rfl ?_
     exact J230 ⟨h60, r56, HF, rfl, S63, s61.le, ob62, ob232⟩
    refine Wp rfl <| Wp rfl <| Wp rfl <| Wp rfl <| Wv rfl (Zf rfl rfl) <| Wv rfl (Zf rfl rfl) ?_
    obtain ⟨r64, hr65, HF⟩ := Z6 HF
    refine Wc rfl (Zi (vs := [pt b1 0, .bool false]) rfl Z0m) (Zb _ hr65 S35.sub ob34) ?_
    rintro v66 w67 ⟨h68, s69, rfl, ob70⟩
    have S71 := S35.trans s69 (Zy (.inl (by simp)) Z0q)
    refine Z7 ?_
    have ob233 := (ob37.step1 s69 (Ne.symm ne24))
    refine Z06 [0, 3, 5] _ rfl ?_
    exact J230 ⟨h68, r64, HF, rfl, S71, s69.le, ob70, ob233⟩
   refine Wp rfl <| Wp rfl <| Wp rfl <| Wp rfl <| Wv rfl (Zf rfl rfl) <| Wm rfl rfl <| Wp rfl <| Wp rfl <| Wp rfl <| Wp rfl <| Wv rfl (Zf rfl rfl) <| Wv rfl (Zf rfl rfl) ?_
   obtain ⟨r72, hr73, HF⟩ := Z6 HF
   refine Wc rfl (Zi (vs := [pt b1 0, .bool false]) rfl Z0m) (Zb _ hr73 S35.sub ob34) ?_
   rintro v74 w75 ⟨h76, s77, rfl, ob78⟩
   have S79 := S35.trans s77 (Zy (.inl (by simp)) Z0q)
   refine Z7 ?_
   have ob234 := (ob37.step1 s77 (Ne.symm ne24))
   refine Z06 [0, 3, 5] _ rfl ?_
   exact J230 ⟨h76, r72, HF, rfl, S79, s77.le, ob78, ob234⟩
  refine Wp rfl <| Wp rfl <| Wp rfl <| Wp rfl <| Wv rfl (Zf rfl rfl) <| Wm rfl rfl <| Wm rfl rfl <| Wv rfl (Z4o rfl) <| Wm rfl rfl <| Z2m 29 HF rfl (fun HF => ?_) (fun HF => ?_)
  ·refine Wv rfl (Z2 rfl Z50) <| Wv rfl (Z8 rfl Z0h (OB.cell ob37 (j := 0) rfl)) <| Wv rfl (Z0v rfl Zx) <| Wv rfl (Z0y rfl rfl) <| Wv rfl (Zh rfl rfl) <| Wm rfl rfl <| Z2m 35 HF rfl (fun HF => ?_) (fun HF => ?_)
   ·refine Wv rfl (Z2 rfl Z49) <| Wv rfl (Z8 rfl Z9g (OB.cell ob37 (j := 1) rfl)) ?_
    obtain ⟨A82, c83, rfl, rs84⟩ := RS.form (rs16.mono ((s22.le).trans s33.le))
    refine Wv rfl (Z0v rfl Z43) <| Wv rfl (Zao rfl rfl) <| Wv rfl (Zh rfl rfl) <| Wv rfl (Zf rfl rfl) ?_
    obtain ⟨r85, hr86, HF⟩ := Z6 HF
    refine Wc rfl (Zi (vs := [pt b1 0, .bool (decide ((0 : Int) < (x7.labels.length : Int)))]) rfl Z0m) (Zb _ hr86 S35.sub ob34) ?_
    rintro v87 w88 ⟨h89, s90, rfl, ob91⟩
    have S92 := S35.trans s90 (Zy (.inl (by simp)) Z0q)
    refine Z7 ?_
    have ob235 := (ob37.step1 s90 (Ne.symm ne24))
    refine Z06 [0, 3, 5] _ rfl ?_
    exact J230 ⟨h89, r85, HF, rfl, S92, s90.le, ob91, ob235⟩
   refine Wp rfl <| Wp rfl <| Wp rfl <| Wp rfl <| Wv rfl (Zf rfl rfl) <| Wv rfl (Zf rfl rfl) ?_
   obtain ⟨r93, hr94, HF⟩ := Z6 HF
   refine Wc rfl (Zi (vs := [pt b1 0, .bool false]) rfl Z0m) (Zb _ hr94 S35.sub ob34) ?_
   rintro v95 w96 ⟨h97, s98, rfl, ob99⟩
   have S100 := S35.trans s98 (Zy (.inl (by simp)) Z0q)
   refine Z7 ?_
   have ob236 := (ob37.step1 s98 (Ne.symm ne24))
   refine Z06 [0, 3, 5] _ rfl ?_
   exact J230 ⟨h97, r93, HF, rfl, S100, s98.le, ob99, ob236⟩
  refine Wp rfl <| Wp rfl <| Wp rfl <| Wp rfl <| Wv rfl (Zf rfl rfl) <| Wm rfl rfl <| Wp rfl <| Wp rfl <| Wp rfl <| Wp rfl <| Wv rfl (Zf rfl rfl) <| Wv rfl (Zf rfl rfl) ?_
  obtain ⟨r101, hr102, HF⟩ := Z6 HF
  refine Wc rfl (Zi (vs := [pt b1 0, .bool false]) rfl Z0m) (Zb _ hr102 S35.sub ob34) ?_
  rintro v103 w104 ⟨h105, s106, rfl, ob107⟩
  have S108 := S35.trans s106 (Zy (.inl (by simp)) Z0q)
  refine Z7 ?_
  have ob237 := (ob37.step1 s106 (Ne.symm ne24))
  refine Z06 [0, 3, 5] _ rfl ?_
  exact J230 ⟨h105, r101, HF, rfl, S108, s106.le, ob107, ob237⟩
 refine Wp rfl <| Wp rfl <| Wp rfl <| Wp rfl <| Wv rfl (Zf rfl rfl) <| Wm rfl rfl <| Wp rfl <| Wp rfl <| Wp rfl <| Wp rfl <| Wv rfl (Zf rfl rfl) <| Wm rfl rfl <| Wm rfl rfl <| Wv rfl (Z4o rfl) <| Wm rfl rfl <| Z2m 29 HF rfl (fun HF => ?_) (fun HF => ?_)
 ·refine Wv rfl (Z2 rfl Z50) ?_
  have ob110 := (ob23.step1 s33 (Ne.symm ne24))
  refine Wv rfl (Z8 rfl Z0h (OB.cell ob110 (j := 0) rfl)) ?_
  obtain ⟨A111, c112, rfl, rs113⟩ := RS.form (rs14.mono ((s22.le).trans s33.le))
  refine Wv rfl (Z0v rfl Zx) <| Wv rfl (Z0y rfl rfl) <| Wv rfl (Zh rfl rfl) <| Wm rfl rfl <| Z2m 35 HF rfl (fun HF => ?_) (fun HF => ?_)
  ·refine Wv rfl (Z2 rfl Z49) <| Wv rfl (Z8 rfl Z9g (OB.cell ob110 (j := 1) rfl)) ?_
   obtain ⟨A115, c116, rfl, rs117⟩ := RS.form (rs16.mono ((s22.le).trans s33.le))
   refine Wv rfl (Z0v rfl Z43) <| Wv rfl (Zao rfl rfl) <| Wv rfl (Zh rfl rfl) <| Wv rfl (Zf rfl rfl) ?_
   obtain ⟨r118, hr119, HF⟩ := Z6 HF
   refine Wc rfl (Zi (vs := [pt b1 0, .bool (decide ((0 : Int) < (x7.labels.length : Int)))]) rfl Z0m) (Zb _ hr119 S35.sub ob34) ?_
   rintro v120 w121 ⟨h122, s123, rfl, ob124⟩
   have S125 := S35.trans s123 (Zy (.inl (by simp)) Z0q)
   refine Z7 ?_
   have ob238 := (ob110.step1 s123 (Ne.symm ne24))
   refine Z06 [0, 3, 5] _ rfl ?_
   exact J230 ⟨h122, r118, HF, rfl, S125, s123.le, ob124, ob238⟩
  refine Wp rfl <| Wp rfl <| Wp rfl <| Wp rfl <| Wv rfl (Zf rfl rfl) <| Wv rfl (Zf rfl rfl) ?_
  obtain ⟨r126, hr127, HF⟩ := Z6 HF
  refine Wc rfl (Zi (vs := [pt b1 0, .bool false]) rfl Z0m) (Zb _ hr127 S35.sub ob34) ?_
  rintro v128 w129 ⟨h130, s131, rfl, ob132⟩
  have S133 := S35.trans s131 (Zy (.inl (by simp)) Z0q)
  refine Z7 ?_
  have ob239 := (ob110.step1 s131 (Ne.symm ne24))
  refine Z06 [0, 3, 5] _ rfl ?_
  exact J230 ⟨h130, r126, HF, rfl, S133, s131.le, ob132, ob239⟩
 refine Wp rfl <| Wp rfl <| Wp rfl <| Wp rfl <| Wv rfl (Zf rfl rfl) <| Wm rfl rfl <| Wp rfl <| Wp rfl <| Wp rfl <| Wp rfl <| Wv rfl (Zf rfl rfl) <| Wv rfl (Zf rfl rfl) ?_
 obtain ⟨r134, hr135, HF⟩ := Z6 HF
 refine Wc rfl (Zi (vs := [pt b1 0, .bool false]) rfl Z0m) (Zb _ hr135 S35.sub ob34) ?_
 rintro v136 w137 ⟨h138, s139, rfl, ob140⟩
 have S141 := S35.trans s139 (Zy (.inl (by simp)) Z0q)
 refine Z7 ?_
 have ob240 := ((ob23.step1 s33 (Ne.symm ne24)).step1 s139 (Ne.symm ne24))
 refine Z06 [0, 3, 5] _ rfl ?_
 exact J230 ⟨h138, r134, HF, rfl, S141, s139.le, ob140, ob240⟩
theorem s_ref02_Size_stmt (k : Nat) (IH : ∀ j, j ≤ k → Z6b (Ze j).ref02_Size_arm ∧ Z5o (Ze j).ref02_Size_stmt ∧ Z5d (Ze j).ref02_Size_Stmts) : Z5o (Z79 k (Ze k)) := by
 intro x3 x4 x5 x7 x10 r HF w0 h0 b1 T2 cs8 hs0 r9 ob6
 have S0 : Stp [b1] w0 h0 w0 h0 := Stp.refl hs0 _
 have lt11 : b1 < w0.heap.size := OB.lt ob6
 refine Z66 (n := 210) Tryz.func75 rfl Tryz.ntmps75 rfl [(0, pt b1 0), (1, .agg cs8.toArray), (2, vi x10)] rfl <| Za <| Z0 ?_
 obtain ⟨v12, v14, v16, v18, v20, v22, rfl, rs13, rs15, rs17, rs19, rs21, rs23⟩ := rp_St.1 r9
 refine Zd2 (cs := [vi x7.op, .string x7.name, v12, v14, v16, vi x7.n, v18, v20, v22, .bool x7.els]) rfl rfl rfl rfl S0.sub (fun w24 b25 hb26 s27 ob28 => ?_)
 have ne29 : b1 ≠ b25 := ob6.ne_new hb26
 have g30 : w0.heap.size ≤ b25 := by rw [hb26]; exact S0.size
 have S31 := S0.trans0 s27
 refine Z7 <| Z5 <| Z04 (fun E w35 => ∃ (h34 : Hp), Zba k (Ze k) x3 x4 x5 x7 x10 = some r ∧ E = [(0, pt b1 0), (2, vi x10), (4, pt b25 0)] ∧ Stp [b1] w0 h0 w35 h34 ∧ Hle h0 h34 ∧ OB w35 h34 b1 T2 [vi x3, vi x4, .bool x5] ∧ OB w35 h34 b25 44 [vi x7.op, .string x7.name, v12, v14, v16, vi x7.n, v18, v20, v22, .bool x7.els]) ?_ ?_
 ·rintro E w35 ⟨h34, HF, rfl, S37, le36, ob38, ob39⟩
  refine Za <| Z0 <| Wm rfl rfl <| Wm rfl rfl ?_
  obtain ⟨r40, hr41, HF⟩ := Z6 HF
  refine Wc rfl (Zi (vs := [pt b1 0, vi x10]) rfl t_ent_58) (Zb4 _ hr41 S37.sub ob38) ?_
  rintro v42 w43 ⟨h44, s45, rfl, ob46⟩
  have S47 := S37.trans s45 (Zy (.inl (by simp)) Z0q)
  refine Z7 <| Z5 <| Za <| Z0 <| Wa rfl rfl <| Wa rfl rfl <| Wa rfl rfl <| Z7 <| Z5 <| Z04 (fun E w126 => ∃ (h125 : Hp) (x129 : Int) (x130 : Bool) (x131 : Bool) (x132 : Bool), Z1w k (Ze k) x7 x10 r40 x129 x130 x131 x132 = some r ∧ E = [(0, pt b1 0), (2, vi x10), (4, pt b25 0), (6, vi x129), (7, .bool x130), (8, .bool x131)] ∧ Stp [b1] w0 h0 w126 h125 ∧ Hle h44 h125 ∧ OB w126 h125 b1 T2 [vi r40.1, vi r40.2.1, .bool x132] ∧ OB w126 h125 b25 44 [vi x7.op, .string x7.name, v12, v14, v16, vi x7.n, v18, v20, v22, .bool x7.els]) ?_ ?_
  ·rintro E w126 ⟨h125, x129, x130, x131, x132, HF, rfl, S128, le127, ob133, ob134⟩
   refine Z04 (fun E w203 => ∃ (h202 : Hp) (x206 : Bool), Z25 k (Ze k) x7 x10 r40 x131 x206 = some r ∧ E = [(0, pt b1 0), (2, vi x10), (4, pt b25 0), (8, .bool x131)] ∧ Stp [b1] w0 h0 w203 h202 ∧ Hle h125 h202 ∧ OB w203 h202 b1 T2 [vi r40.1, vi r40.2.1, .bool x206] ∧ OB w203 h202 b25 44 [vi x7.op, .string x7.name, v12, v14, v16, vi x7.n, v18, v20, v22, .bool x7.els]) ?_ ?_
   ·rintro E w203 ⟨h202, x206, HF, rfl, S205, le204, ob207, ob208⟩
    refine Z04 (fun E w317 => ∃ (h316 : Hp) (x320 : Bool), Z11 k (Ze k) x7 x10 r40 x131 x320 = some r ∧ E = [(0, pt b1 0), (2, vi x10), (4, pt b25 0), (8, .bool x131)] ∧ Stp [b1] w0 h0 w317 h316 ∧ Hle h202 h316 ∧ OB w317 h316 b1 T2 [vi r40.1, vi r40.2.1, .bool x320] ∧ OB w317 h316 b25 44 [vi x7.op, .string x7.name, v12, v14, v16, vi x7.n, v18, v20, v22, .bool x7.els]) ?_ ?_
    ·rintro E w317 ⟨h316, x320, HF, rfl, S319, le318, ob321, ob322⟩
     refine Z04 (fun E w503 => ∃ (h502 : Hp) (x506 : Bool), Z0a k (Ze k) x7 x10 r40 x506 = some r ∧ E = [(0, pt b1 0), (2, vi x10), (4, pt b25 0)] ∧ Stp [b1] w0 h0 w503 h502 ∧ Hle h316 h502 ∧ OB w503 h502 b1 T2 [vi r40.1, vi r40.2.1, .bool x506] ∧ OB w503 h502 b25 44 [vi x7.op, .string x7.name, v12, v14, v16, vi x7.n, v18, v20, v22, .bool x7.els]) ?_ ?_
     ·rintro E w503 ⟨h502, x506, HF, rfl, S505, le504, ob507, ob508⟩
      refine Za <| Z0 <| Wm rfl rfl <| Wv rfl (Z2 rfl Z5h) <| Wv rfl (Z8 rfl Z0h (OB.cell ob508 (j := 2) rfl)) <| Wm rfl rfl <| Wv rfl (Z2v rfl rfl) ?_
      obtain ⟨r509, hr510, HF⟩ := Z6 HF
      refine Wc rfl (Zi (vs := [pt b1 0, v12, vi (IntKind.i64.wrap (x10 + 1))]) rfl t_ent_61) (Za4 _ hr510 S505.sub (rs13.mono ((s27.le).trans ((le36).trans ((s45.le).trans ((le127).trans ((le204).trans ((le318).trans le504))))))) ob507) ?_
      rintro v511 w512 ⟨h513, s514, rfl, ob515⟩
      have S516 := S505.trans s514 (Zy (.inl (by simp)) Z0q)
      refine Z7 <| Z5 <| Za <| Z0 <| Wm rfl rfl <| Wv rfl (Z2 rfl Z1f) ?_
      have ob517 := (ob508.step1 s514 (Ne.symm ne29))
      refine Wv rfl (Z8 rfl Z0h (OB.cell ob517 (j := 4) rfl)) <| Wm rfl rfl <| Wv rfl (Z2v rfl rfl) ?_
      obtain ⟨r518, hr519, HF⟩ := Z6 HF
      refine Wc rfl (Zi (vs := [pt b1 0, v16, vi (IntKind.i64.wrap (x10 + 1))]) rfl t_ent_61) (Za4 _ hr519 S516.sub (rs17.mono ((s27.le).trans ((le36).trans ((s45.le).trans ((le127).trans ((le204).trans ((le318).trans ((le504).trans s514.le)))))))) ob515) ?_
      rintro v520 w521 ⟨h522, s523, rfl, ob524⟩
      have S525 := S516.trans s523 (Zy (.inl (by simp)) Z0q)
      refine Z7 <| Z5 <| Za <| Z0 <| Wm rfl rfl <| Wv rfl (Z2 rfl Z48) ?_
      have ob526 := (ob517.step1 s523 (Ne.symm ne29))
      refine Wv rfl (Z8 rfl Z2r (OB.cell ob526 (j := 6) rfl)) <| Wm rfl rfl <| Wv rfl (Z2v rfl rfl) ?_
      obtain ⟨r527, hr528, HF⟩ := Z6 HF
      refine Wc rfl (Zi (vs := [pt b1 0, v18, vi (IntKind.i64.wrap (x10 + 1))]) rfl t_ent_52) ((IH _ (Nat.le_refl _)).2.2 hr528 S525.sub (rs19.mono ((s27.le).trans ((le36).trans ((s45.le).trans ((le127).trans ((le204).trans ((le318).trans ((le504).trans ((s514.le).trans s523.le))))))))) ob524) ?_
      rintro v529 w530 ⟨h531, s532, rfl, ob533⟩
      have S534 := S525.trans s532 (Zy (.inl (by simp)) Z0q)
      refine Z7 <| Z5 <| Za <| Za <| Z0 <| Wa rfl rfl <| Z7 <| Z5 <| Z0c <| Z4j <| Z8e [0, 2, 4, 9] [(0, pt b1 0), (2, vi x10), (4, pt b25 0), (9, vi 0)] rfl <| Z4m (K := k) (fun j E w536 => ∃ (h535 : Hp) (x539 : Int) (x540 : Int) (x541 : Int) (x542 : Bool) (xs544 : List Ar) (v545 : Value), (Ze j).ref02_Size_stmt_l8 x7 x10 x539 x540 x541 x542 xs544 = some r ∧ E = [(0, pt b1 0), (2, vi x10), (4, pt b25 0), (9, vi x539)] ∧ Stp [b1] w0 h0 w536 h535 ∧ Hle h531 h535 ∧ RS h535 v545 xs544 ∧ OB w536 h535 b1 T2 [vi x540, vi x541, .bool x542] ∧ OB w536 h535 b25 44 [vi x7.op, .string x7.name, v12, v14, v16, vi x7.n, v18, v545, v22, .bool x7.els]) ?_ ?_ (j := k) (Nat.le_refl _) ?_
      ·rintro E w536 ⟨_, _, _, _, _, _, _, HF, _⟩; cases HF
      ·rintro j548 hj550 IHL549 E w536 ⟨h535, x539, x540, x541, x542, xs544, v545, HF, rfl, S538, le537, rs546, ob543, ob547⟩
       refine Z04 (fun E w573 => ∃ (h572 : Hp), Zak j548 (Ze j548) x7 x10 x539 x540 x541 x542 xs544 = some r ∧ E = [(0, pt b1 0), (2, vi x10), (4, pt b25 0), (9, vi x539)] ∧ Stp [b1] w0 h0 w573 h572 ∧ Hle h535 h572 ∧ OB w573 h572 b1 T2 [vi x540, vi x541, .bool x542] ∧ OB w573 h572 b25 44 [vi x7.op, .string x7.name, v12, v14, v16, vi x7.n, v18, v545, v22, .bool x7.els]) ?_ ?_
       ·rintro E w573 ⟨h572, HF, rfl, S575, le574, ob576, ob577⟩
        refine Za <| Z0c ?_
        obtain ⟨A578, c579, rfl, rs580⟩ := RS.form (rs546.mono (le574))
        obtain ⟨e581, he582, HF⟩ := Z6 HF
        obtain ⟨b583, o584, rfl, h586, h587, ra585⟩ := RS.atO rs580 he582
        obtain ⟨cs588, r589, hc590⟩ := ra585
        refine Z2z (m := 11) [(0, pt b1 0), (2, vi x10), (4, pt b25 0), (9, vi x539)] [0, 2, 4, 9] rfl (fun i v w h => match i with | 0 => v = pt b1 0 | 1 => v = pt b25 7 | 2 => v = sl b583 o584 (xs544).length c579 | 3 => v = vi x539 | 4 => v = pt b583 (o584 + Int.toNat x539 * 3) | 5 => v = .agg cs588.toArray | 6 => v = pt b25 0 | 7 => v = vi x7.op | 8 => v = .bool ((x7.op : Int) == 3) | 9 => v = vi x10 | 10 => v = vi (IntKind.i64.wrap (x10 + 1)) | _ => True) Z4c S575.sub rfl rfl rfl rfl rfl ?_ ?_ ?_
        ·intro i v w h w2 h2 hΦ hst
         match i, hΦ with
         | 0, hΦ | 1, hΦ | 2, hΦ | 3, hΦ | 4, hΦ | 5, hΦ | 6, hΦ | 7, hΦ | 8, hΦ | 9, hΦ | 10, hΦ => exact hΦ
         | i + 11, _ => exact trivial
        ·refine ⟨?_, ?_, ?_, ?_, ?_, ?_, ?_, ?_, ?_, ?_, ?_, trivial⟩
         ·intro a w591 h592 s593 hat hF
          exact Z4 hat rfl (Z0j rfl) s593.sub (by exact rfl)
         ·intro a w591 h592 s593 hat hF
          exact Z4 hat rfl (Z2 rfl Z2e) s593.sub (by exact rfl)
         ·intro a w591 h592 s593 hat hF
          have ob594 := (ob577.step0 s593)
          exact Z4 (Z1 hat (hF 1 193 rfl rfl)) rfl (Z8 rfl Z6z (OB.cell ob594 (j := 7) rfl)) s593.sub (by exact rfl)
         ·intro a w591 h592 s593 hat hF
          exact Z4 hat rfl (Z0j rfl) s593.sub (by exact rfl)
         ·intro a w591 h592 s593 hat hF
          exact Z4 (Z1 (Z1 hat (hF 2 194 rfl rfl)) (hF 3 195 rfl rfl)) rfl (Zk rfl rfl Z32 Z56 h586 h587) s593.sub (by exact rfl)
         ·intro a w591 h592 s593 hat hF
          exact Z4 (Z1 hat (hF 4 196 rfl rfl)) rfl (Z0w (cs := cs588) rfl t_agg_47 (by rw [Rp.len (Rp.mono (s593.le) r589)]; exact Z56) (fun j v hv => s593.sub.at_ _ _ _ ((fun i v hv => (s593.le).1 _ _ _ (hc590 i v hv)) j v hv))) s593.sub (by exact rfl)
         ·intro a w591 h592 s593 hat hF
          exact Z4 hat rfl (Z2 rfl Z1g) s593.sub (by exact rfl)
         ·intro a w591 h592 s593 hat hF
          have ob595 := (ob577.step0 s593)
          exact Z4 (Z1 hat (hF 6 198 rfl rfl)) rfl (Z8 rfl Z0t (OB.cell ob595 (j := 0) rfl)) s593.sub (by exact rfl)
         ·intro a w591 h592 s593 hat hF
          exact Z4 (Z1 hat (hF 7 199 rfl rfl)) rfl (Z0y rfl rfl) s593.sub (by exact rfl)
         ·intro a w591 h592 s593 hat hF
          exact Z4 hat rfl (Z0j rfl) s593.sub (by exact rfl)
         intro a w591 h592 s593 hat hF
         exact Z4 (Z1 hat (hF 9 201 rfl rfl)) rfl (Z2v rfl rfl) s593.sub (by exact rfl)
        intro a w591 h592 s593 hat hF
        obtain hv0 := hF 0 192 (by decide) rfl
        obtain hv1 := hF 1 193 (by decide) rfl
        obtain hv2 := hF 2 194 (by decide) rfl
        obtain hv3 := hF 3 195 (by decide) rfl
        obtain hv4 := hF 4 196 (by decide) rfl
        obtain hv5 := hF 5 197 (by decide) rfl
        obtain hv6 := hF 6 198 (by decide) rfl
        obtain hv7 := hF 7 199 (by decide) rfl
        obtain hv8 := hF 8 200 (by decide) rfl
        obtain hv9 := hF 9 201 (by decide) rfl
        obtain hv10 := hF 10 202 (by decide) rfl
        refine Z7u [(202, vi (IntKind.i64.wrap (x10 + 1))), (201, vi x10), (200, .bool ((x7.op : Int) == 3)), (199, vi x7.op), (198, pt b25 0), (197, .agg cs588.toArray), (196, pt b583 (o584 + Int.toNat x539 * 3)), (195, vi x539), (194, sl b583 o584 (xs544).length c579), (193, pt b25 7), (192, pt b1 0), (0, pt b1 0), (2, vi x10), (4, pt b25 0), (9, vi x539)] (Z1 (Z1 (Z1 (Z1 (Z1 (Z1 (Z1 (Z1 (Z1 (Z1 (Z1 hat hv0) hv1) hv2) hv3) hv4) hv5) hv6) hv7) hv8) hv9) hv10) ?_
        have S596 := S575.trans0 s593
        have ob597 := (ob576.step0 s593)
        obtain ⟨r598, hr599, HF⟩ := Z6 HF
        refine Wc rfl (Zi (vs := [pt b1 0, .agg cs588.toArray, .bool ((x7.op : Int) == 3), vi (IntKind.i64.wrap (x10 + 1))]) rfl t_ent_99) ((IH _ (Nat.le_trans (Nat.le_of_succ_le hj550) (Nat.le_refl _))).1 hr599 S596.sub (Rp.mono (s593.le) r589) ob597) ?_
        rintro v600 w601 ⟨h602, s603, rfl, ob604⟩
        have S605 := S596.trans s603 (Zy (.inl (by simp)) Z0q)
        refine Z7 <| Zv <| Z5 <| Z0 <| Wm rfl rfl <| Wv rfl (Z2v rfl rfl) <| Wa rfl rfl <| Z7 ?_
        have ob607 := ((ob577.step0 s593).step1 s603 (Ne.symm ne29))
        refine Z2x <| Z8e [0, 2, 4, 9] [(0, pt b1 0), (2, vi x10), (4, pt b25 0), (9, vi (IntKind.i64.wrap (x539 + 1)))] rfl ?_
        exact IHL549 j548 (Nat.le_refl _) _ _ ⟨h602, IntKind.i64.wrap (x539 + 1), r598.1, r598.2.1, r598.2.2, xs544, sl b583 o584 (xs544).length c579, HF, rfl, S605, (le537).trans ((le574).trans ((s593.le).trans s603.le)), (rs580.mono ((s593.le).trans s603.le)), ob604, ob607⟩
       intro J606
       refine Z04 (fun E w556 => ∃ (h555 : Hp) (x559 : Bool), Z5b j548 (Ze j548) x7 x10 x539 x540 x541 x542 xs544 x559 = some r ∧ E = [(0, pt b1 0), (2, vi x10), (4, pt b25 0), (9, vi x539), (189, .bool x559)] ∧ Stp [b1] w0 h0 w556 h555 ∧ Hle h535 h555 ∧ OB w556 h555 b1 T2 [vi x540, vi x541, .bool x542] ∧ OB w556 h555 b25 44 [vi x7.op, .string x7.name, v12, v14, v16, vi x7.n, v18, v545, v22, .bool x7.els]) ?_ ?_
       ·rintro E w556 ⟨h555, x559, HF, rfl, S558, le557, ob560, ob561⟩
        refine Z12 HF rfl (fun HF => ?_) (fun HF => ?_)
        ·refine Zm <| Z06 [0, 2, 4, 9] _ rfl ?_
         exact J606 ⟨h555, HF, rfl, S558, le557, ob560, ob561⟩
        refine Z4b <| Zr <| Zr <| Z0x <| Z5 <| Z0 <| Wm rfl rfl <| Wv rfl (Z2 rfl Z3f) <| Wv rfl (Z8 rfl Z2r (OB.cell ob561 (j := 8) rfl)) <| Wm rfl rfl <| Wv rfl (Z2v rfl rfl) ?_
        obtain ⟨r563, hr564, HF⟩ := Z6 HF
        refine Wc rfl (Zi (vs := [pt b1 0, v22, vi (IntKind.i64.wrap (x10 + 1))]) rfl t_ent_52) ((IH _ (Nat.le_trans (Nat.le_of_succ_le hj550) (Nat.le_refl _))).2.2 hr564 S558.sub (rs23.mono ((s27.le).trans ((le36).trans ((s45.le).trans ((le127).trans ((le204).trans ((le318).trans ((le504).trans ((s514.le).trans ((s523.le).trans ((s532.le).trans ((le537).trans le557)))))))))))) ob560) ?_
        rintro v565 w566 ⟨h567, s568, rfl, ob569⟩
        have S570 := S558.trans s568 (Zy (.inl (by simp)) Z0q)
        refine Z7 <| Z5v rfl ?_
        obtain rfl := Option.some.inj HF
        exact ⟨_, rfl, h567, S570, rfl, ob569⟩
       intro J571
       refine Z0 <| Wm rfl rfl <| Wv rfl (Z2 rfl Z2e) <| Wv rfl (Z8 rfl Z6z (OB.cell ob547 (j := 7) rfl)) ?_
       obtain ⟨A551, c552, rfl, rs553⟩ := RS.form rs546
       refine Wv rfl (Z0v rfl Z32) <| Wv rfl (Z6q rfl rfl) <| Wm rfl rfl <| Z2m 183 HF rfl (fun HF => ?_) (fun HF => ?_)
       ·refine Wm rfl rfl <| Wv rfl (Z02 rfl) <| Wv rfl (Z2 rfl Z5z) <| Wv rfl (Z8 rfl Z65 (OB.cell ob543 (j := 2) rfl)) <| Wv rfl (Z4o rfl) <| Wv rfl (Zh rfl rfl) <| Z7 <| Z06 [0, 2, 4, 9, 189] _ rfl ?_
        exact J571 ⟨h535, !x542, HF, rfl, S538, Hle.refl _, ob543, ob547⟩
       refine Wp rfl <| Wp rfl <| Wp rfl <| Wp rfl <| Wp rfl <| Wv rfl (Zf rfl rfl) <| Z7 <| Z06 [0, 2, 4, 9, 189] _ rfl ?_
       exact J571 ⟨h535, false, HF, rfl, S538, Hle.refl _, ob543, ob547⟩
      have ob608 := (ob526.step1 s532 (Ne.symm ne29))
      exact ⟨h531, 0, r527.1, r527.2.1, r527.2.2, x7.arms, v20, HF, rfl, S534, Hle.refl _, (rs21.mono ((s27.le).trans ((le36).trans ((s45.le).trans ((le127).trans ((le204).trans ((le318).trans ((le504).trans ((s514.le).trans ((s523.le).trans s532.le)))))))))), ob533, ob608⟩
     intro J609
     refine Z0 <| Wm rfl rfl <| Wm rfl rfl <| Wm rfl rfl <| Z2m 122 HF rfl (fun HF => ?_) (fun HF => ?_)
     ·refine Wp rfl <| Wp rfl <| Wp rfl <| Wp rfl <| Wv rfl (Zh rfl rfl) <| Wm rfl rfl <| Wv rfl (Z2 rfl Z1g) <| Wv rfl (Z8 rfl Z0t (OB.cell ob322 (j := 0) rfl)) <| Wv rfl (Z0y rfl rfl) <| Wm rfl rfl <| Z2m 132 HF rfl (fun HF => ?_) (fun HF => ?_)
      ·refine Wp rfl <| Wp rfl <| Wp rfl <| Wv rfl (Zh rfl rfl) <| Wm rfl rfl <| Wp rfl <| Wp rfl <| Wp rfl <| Wp rfl <| Wp rfl <| Wp rfl <| Wp rfl <| Wp rfl <| Wp rfl <| Wv rfl (Zh rfl rfl) <| Wv rfl (Zh rfl rfl) <| Wm rfl rfl <| Wv rfl (Z2 rfl Z33) <| Wv rfl (Z8 rfl Z65 (OB.cell ob322 (j := 9) rfl)) <| Wm rfl rfl <| Z2m 152 HF rfl (fun HF => ?_) (fun HF => ?_)
       ·refine Wp rfl <| Wp rfl <| Wp rfl <| Wp rfl <| Wv rfl (Zh rfl rfl) <| Wv rfl (Zh rfl rfl) ?_
        obtain ⟨r326, hr327, HF⟩ := Z6 HF
        refine Wc rfl (Zi (vs := [pt b1 0, .bool true]) rfl Z0m) (Zb _ hr327 S319.sub ob321) ?_
        rintro v328 w329 ⟨h330, s331, rfl, ob332⟩
        have S333 := S319.trans s331 (Zy (.inl (by simp)) Z0q)
        refine Z7 ?_
        have ob610 := (ob322.step1 s331 (Ne.symm ne29))
        refine Z06 [0, 2, 4] _ rfl ?_
        exact J609 ⟨h330, r326, HF, rfl, S333, s331.le, ob332, ob610⟩
       refine Wv rfl (Z2 rfl Z3f) <| Wv rfl (Z8 rfl Z2r (OB.cell ob322 (j := 8) rfl)) ?_
       obtain ⟨A334, c335, rfl, rs336⟩ := RS.form (rs23.mono ((s27.le).trans ((le36).trans ((s45.le).trans ((le127).trans ((le204).trans le318))))))
       refine Wv rfl (Z0v rfl Z1e) <| Wv rfl (Z0y rfl rfl) <| Wv rfl (Zf rfl rfl) <| Wv rfl (Zh rfl rfl) ?_
       obtain ⟨r337, hr338, HF⟩ := Z6 HF
       refine Wc rfl (Zi (vs := [pt b1 0, .bool (((x7.other.length : Int) : Int) == 0)]) rfl Z0m) (Zb _ hr338 S319.sub ob321) ?_
       rintro v339 w340 ⟨h341, s342, rfl, ob343⟩
       have S344 := S319.trans s342 (Zy (.inl (by simp)) Z0q)
       refine Z7 ?_
       have ob611 := (ob322.step1 s342 (Ne.symm ne29))
       refine Z06 [0, 2, 4] _ rfl ?_
       exact J609 ⟨h341, r337, HF, rfl, S344, s342.le, ob343, ob611⟩
      refine Wv rfl (Z2 rfl Z1g) <| Wv rfl (Z8 rfl Z0t (OB.cell ob322 (j := 0) rfl)) <| Wv rfl (Z0y rfl rfl) <| Wv rfl (Zf rfl rfl) <| Wm rfl rfl <| Z2m 137 HF rfl (fun HF => ?_) (fun HF => ?_)
      ·refine Wp rfl <| Wp rfl <| Wp rfl <| Wp rfl <| Wp rfl <| Wp rfl <| Wp rfl <| Wp rfl <| Wp rfl <| Wv rfl (Zh rfl rfl) <| Wv rfl (Zh rfl rfl) <| Wm rfl rfl <| Wv rfl (Z2 rfl Z33) <| Wv rfl (Z8 rfl Z65 (OB.cell ob322 (j := 9) rfl)) <| Wm rfl rfl <| Z2m 152 HF rfl (fun HF => ?_) (fun HF => ?_)
       ·refine Wp rfl <| Wp rfl <| Wp rfl <| Wp rfl <| Wv rfl (Zh rfl rfl) <| Wv rfl (Zh rfl rfl) ?_
        obtain ⟨r347, hr348, HF⟩ := Z6 HF
        refine Wc rfl (Zi (vs := [pt b1 0, .bool true]) rfl Z0m) (Zb _ hr348 S319.sub ob321) ?_
        rintro v349 w350 ⟨h351, s352, rfl, ob353⟩
        have S354 := S319.trans s352 (Zy (.inl (by simp)) Z0q)
        refine Z7 ?_
        have ob612 := (ob322.step1 s352 (Ne.symm ne29))
        refine Z06 [0, 2, 4] _ rfl ?_
        exact J609 ⟨h351, r347, HF, rfl, S354, s352.le, ob353, ob612⟩
       refine Wv rfl (Z2 rfl Z3f) <| Wv rfl (Z8 rfl Z2r (OB.cell ob322 (j := 8) rfl)) ?_
       obtain ⟨A355, c356, rfl, rs357⟩ := RS.form (rs23.mono ((s27.le).trans ((le36).trans ((s45.le).trans ((le127).trans ((le204).trans le318))))))
       refine Wv rfl (Z0v rfl Z1e) <| Wv rfl (Z0y rfl rfl) <| Wv rfl (Zf rfl rfl) <| Wv rfl (Zh rfl rfl) ?_
       obtain ⟨r358, hr359, HF⟩ := Z6 HF
       refine Wc rfl (Zi (vs := [pt b1 0, .bool (((x7.other.length : Int) : Int) == 0)]) rfl Z0m) (Zb _ hr359 S319.sub ob321) ?_
       rintro v360 w361 ⟨h362, s363, rfl, ob364⟩
       have S365 := S319.trans s363 (Zy (.inl (by simp)) Z0q)
       refine Z7 ?_
       have ob613 := (ob322.step1 s363 (Ne.symm ne29))
       refine Z06 [0, 2, 4] _ rfl ?_
       exact J609 ⟨h362, r358, HF, rfl, S365, s363.le, ob364, ob613⟩
      refine Wv rfl (Z2 rfl Z2e) <| Wv rfl (Z8 rfl Z6z (OB.cell ob322 (j := 7) rfl)) ?_
      obtain ⟨A366, c367, rfl, rs368⟩ := RS.form (rs21.mono ((s27.le).trans ((le36).trans ((s45.le).trans ((le127).trans ((le204).trans le318))))))
      refine Wv rfl (Z0v rfl Z32) <| Wv rfl (Z0y rfl rfl) <| Wm rfl rfl <| Z2m 142 HF rfl (fun HF => ?_) (fun HF => ?_)
      ·refine Wv rfl (Z2 rfl Z33) <| Wv rfl (Z8 rfl Z65 (OB.cell ob322 (j := 9) rfl)) <| Wv rfl (Z4o rfl) <| Wv rfl (Zh rfl rfl) <| Wv rfl (Zf rfl rfl) <| Wv rfl (Zh rfl rfl) <| Wm rfl rfl <| Z2m 149 HF rfl (fun HF => ?_) (fun HF => ?_)
       ·refine Wv rfl (Z2 rfl Z33) <| Wv rfl (Z8 rfl Z65 (OB.cell ob322 (j := 9) rfl)) <| Wm rfl rfl <| Z2m 152 HF rfl (fun HF => ?_) (fun HF => ?_)
        ·refine Wp rfl <| Wp rfl <| Wp rfl <| Wp rfl <| Wv rfl (Zh rfl rfl) <| Wv rfl (Zh rfl rfl) ?_
         obtain ⟨r372, hr373, HF⟩ := Z6 HF
         refine Wc rfl (Zi (vs := [pt b1 0, .bool true]) rfl Z0m) (Zb _ hr373 S319.sub ob321) ?_
         rintro v374 w375 ⟨h376, s377, rfl, ob378⟩
         have S379 := S319.trans s377 (Zy (.inl (by simp)) Z0q)
         refine Z7 ?_
         have ob614 := (ob322.step1 s377 (Ne.symm ne29))
         refine Z06 [0, 2, 4] _ rfl ?_
         exact J609 ⟨h376, r372, HF, rfl, S379, s377.le, ob378, ob614⟩
        refine Wv rfl (Z2 rfl Z3f) <| Wv rfl (Z8 rfl Z2r (OB.cell ob322 (j := 8) rfl)) ?_
        obtain ⟨A380, c381, rfl, rs382⟩ := RS.form (rs23.mono ((s27.le).trans ((le36).trans ((s45.le).trans ((le127).trans ((le204).trans le318))))))
        refine Wv rfl (Z0v rfl Z1e) <| Wv rfl (Z0y rfl rfl) <| Wv rfl (Zf rfl rfl) <| Wv rfl (Zh rfl rfl) ?_
        obtain ⟨r383, hr384, HF⟩ := Z6 HF
        refine Wc rfl (Zi (vs := [pt b1 0, .bool (((x7.other.length : Int) : Int) == 0)]) rfl Z0m) (Zb _ hr384 S319.sub ob321) ?_
        rintro v385 w386 ⟨h387, s388, rfl, ob389⟩
        have S390 := S319.trans s388 (Zy (.inl (by simp)) Z0q)
        refine Z7 ?_
        have ob615 := (ob322.step1 s388 (Ne.symm ne29))
        refine Z06 [0, 2, 4] _ rfl ?_
        exact J609 ⟨h387, r383, HF, rfl, S390, s388.le, ob389, ob615⟩
       refine Wp rfl <| Wp rfl <| Wp rfl <| Wp rfl <| Wp rfl <| Wp rfl <| Wp rfl <| Wp rfl <| Wv rfl (Zf rfl rfl) ?_
       obtain ⟨r391, hr392, HF⟩ := Z6 HF
       refine Wc rfl (Zi (vs := [pt b1 0, .bool false]) rfl Z0m) (Zb _ hr392 S319.sub ob321) ?_
       rintro v393 w394 ⟨h395, s396, rfl, ob397⟩
       have S398 := S319.trans s396 (Zy (.inl (by simp)) Z0q)
       refine Z7 ?_
       have ob616 := (ob322.step1 s396 (Ne.symm ne29))
       refine Z06 [0, 2, 4] _ rfl ?_
       exact J609 ⟨h395, r391, HF, rfl, S398, s396.le, ob397, ob616⟩
      refine Wp rfl <| Wp rfl <| Wp rfl <| Wv rfl (Zf rfl rfl) <| Wv rfl (Zf rfl rfl) <| Wv rfl (Zh rfl rfl) <| Wm rfl rfl <| Wp rfl <| Wp rfl <| Wp rfl <| Wp rfl <| Wp rfl <| Wp rfl <| Wp rfl <| Wp rfl <| Wv rfl (Zf rfl rfl) ?_
      obtain ⟨r399, hr400, HF⟩ := Z6 HF
      refine Wc rfl (Zi (vs := [pt b1 0, .bool false]) rfl Z0m) (Zb _ hr400 S319.sub ob321) ?_
      rintro v401 w402 ⟨h403, s404, rfl, ob405⟩
      have S406 := S319.trans s404 (Zy (.inl (by simp)) Z0q)
      refine Z7 ?_
      have ob617 := (ob322.step1 s404 (Ne.symm ne29))
      refine Z06 [0, 2, 4] _ rfl ?_
      exact J609 ⟨h403, r399, HF, rfl, S406, s404.le, ob405, ob617⟩
     refine Wv rfl (Z2 rfl Z48) <| Wv rfl (Z8 rfl Z2r (OB.cell ob322 (j := 6) rfl)) ?_
     obtain ⟨A407, c408, rfl, rs409⟩ := RS.form (rs19.mono ((s27.le).trans ((le36).trans ((s45.le).trans ((le127).trans ((le204).trans le318))))))
     refine Wv rfl (Z0v rfl Z1e) <| Wv rfl (Z0y rfl rfl) <| Wv rfl (Zf rfl rfl) <| Wm rfl rfl <| Z2m 128 HF rfl (fun HF => ?_) (fun HF => ?_)
     ·refine Wv rfl (Z2 rfl Z1g) <| Wv rfl (Z8 rfl Z0t (OB.cell ob322 (j := 0) rfl)) <| Wv rfl (Z0y rfl rfl) <| Wm rfl rfl <| Z2m 132 HF rfl (fun HF => ?_) (fun HF => ?_)
      ·refine Wp rfl <| Wp rfl <| Wp rfl <| Wv rfl (Zh rfl rfl) <| Wm rfl rfl <| Wp rfl <| Wp rfl <| Wp rfl <| Wp rfl <| Wp rfl <| Wp rfl <| Wp rfl <| Wp rfl <| Wp rfl <| Wv rfl (Zh rfl rfl) <| Wv rfl (Zh rfl rfl) <| Wm rfl rfl <| Wv rfl (Z2 rfl Z33) <| Wv rfl (Z8 rfl Z65 (OB.cell ob322 (j := 9) rfl)) <| Wm rfl rfl <| Z2m 152 HF rfl (fun HF => ?_) (fun HF => ?_)
       ·refine Wp rfl <| Wp rfl <| Wp rfl <| Wp rfl <| Wv rfl (Zh rfl rfl) <| Wv rfl (Zh rfl rfl) ?_
        obtain ⟨r413, hr414, HF⟩ := Z6 HF
        refine Wc rfl (Zi (vs := [pt b1 0, .bool true]) rfl Z0m) (Zb _ hr414 S319.sub ob321) ?_
        rintro v415 w416 ⟨h417, s418, rfl, ob419⟩
        have S420 := S319.trans s418 (Zy (.inl (by simp)) Z0q)
        refine Z7 ?_
        have ob618 := (ob322.step1 s418 (Ne.symm ne29))
        refine Z06 [0, 2, 4] _ rfl ?_
        exact J609 ⟨h417, r413, HF, rfl, S420, s418.le, ob419, ob618⟩
       refine Wv rfl (Z2 rfl Z3f) <| Wv rfl (Z8 rfl Z2r (OB.cell ob322 (j := 8) rfl)) ?_
       obtain ⟨A421, c422, rfl, rs423⟩ := RS.form (rs23.mono ((s27.le).trans ((le36).trans ((s45.le).trans ((le127).trans ((le204).trans le318))))))
       refine Wv rfl (Z0v rfl Z1e) <| Wv rfl (Z0y rfl rfl) <| Wv rfl (Zf rfl rfl) <| Wv rfl (Zh rfl rfl) ?_
       obtain ⟨r424, hr425, HF⟩ := Z6 HF
       refine Wc rfl (Zi (vs := [pt b1 0, .bool (((x7.other.length : Int) : Int) == 0)]) rfl Z0m) (Zb _ hr425 S319.sub ob321) ?_
       rintro v426 w427 ⟨h428, s429, rfl, ob430⟩
       have S431 := S319.trans s429 (Zy (.inl (by simp)) Z0q)
       refine Z7 ?_
       have ob619 := (ob322.step1 s429 (Ne.symm ne29))
       refine Z06 [0, 2, 4] _ rfl ?_
       exact J609 ⟨h428, r424, HF, rfl, S431, s429.le, ob430, ob619⟩
      refine Wv rfl (Z2 rfl Z1g) <| Wv rfl (Z8 rfl Z0t (OB.cell ob322 (j := 0) rfl)) <| Wv rfl (Z0y rfl rfl) <| Wv rfl (Zf rfl rfl) <| Wm rfl rfl <| Z2m 137 HF rfl (fun HF => ?_) (fun HF => ?_)
      ·refine Wp rfl <| Wp rfl <| Wp rfl <| Wp rfl <| Wp rfl <| Wp rfl <| Wp rfl <| Wp rfl <| Wp rfl <| Wv rfl (Zh rfl rfl) <| Wv rfl (Zh rfl rfl) <| Wm rfl rfl <| Wv rfl (Z2 rfl Z33) <| Wv rfl (Z8 rfl Z65 (OB.cell ob322 (j := 9) rfl)) <| Wm rfl rfl <| Z2m 152 HF rfl (fun HF => ?_) (fun HF => ?_)
       ·refine Wp rfl <| Wp rfl <| Wp rfl <| Wp rfl <| Wv rfl (Zh rfl rfl) <| Wv rfl (Zh rfl rfl) ?_
        obtain ⟨r434, hr435, HF⟩ := Z6 HF
        refine Wc rfl (Zi (vs := [pt b1 0, .bool true]) rfl Z0m) (Zb _ hr435 S319.sub ob321) ?_
        rintro v436 w437 ⟨h438, s439, rfl, ob440⟩
        have S441 := S319.trans s439 (Zy (.inl (by simp)) Z0q)
        refine Z7 ?_
        have ob620 := (ob322.step1 s439 (Ne.symm ne29))
        refine Z06 [0, 2, 4] _ rfl ?_
        exact J609 ⟨h438, r434, HF, rfl, S441, s439.le, ob440, ob620⟩
       refine Wv rfl (Z2 rfl Z3f) <| Wv rfl (Z8 rfl Z2r (OB.cell ob322 (j := 8) rfl)) ?_
       obtain ⟨A442, c443, rfl, rs444⟩ := RS.form (rs23.mono ((s27.le).trans ((le36).trans ((s45.le).trans ((le127).trans ((le204).trans le318))))))
       refine Wv rfl (Z0v rfl Z1e) <| Wv rfl (Z0y rfl rfl) <| Wv rfl (Zf rfl rfl) <| Wv rfl (Zh rfl rfl) ?_
       obtain ⟨r445, hr446, HF⟩ := Z6 HF
       refine Wc rfl (Zi (vs := [pt b1 0, .bool (((x7.other.length : Int) : Int) == 0)]) rfl Z0m) (Zb _ hr446 S319.sub ob321) ?_
       rintro v447 w448 ⟨h449, s450, rfl, ob451⟩
       have S452 := S319.trans s450 (Zy (.inl (by simp)) Z0q)
       refine Z7 ?_
       have ob621 := (ob322.step1 s450 (Ne.symm ne29))
       refine Z06 [0, 2, 4] _ rfl ?_
       exact J609 ⟨h449, r445, HF, rfl, S452, s450.le, ob451, ob621⟩
      refine Wv rfl (Z2 rfl Z2e) <| Wv rfl (Z8 rfl Z6z (OB.cell ob322 (j := 7) rfl)) ?_
      obtain ⟨A453, c454, rfl, rs455⟩ := RS.form (rs21.mono ((s27.le).trans ((le36).trans ((s45.le).trans ((le127).trans ((le204).trans le318))))))
      refine Wv rfl (Z0v rfl Z32) <| Wv rfl (Z0y rfl rfl) <| Wm rfl rfl <| Z2m 142 HF rfl (fun HF => ?_) (fun HF => ?_)
      ·refine Wv rfl (Z2 rfl Z33) <| Wv rfl (Z8 rfl Z65 (OB.cell ob322 (j := 9) rfl)) <| Wv rfl (Z4o rfl) <| Wv rfl (Zh rfl rfl) <| Wv rfl (Zf rfl rfl) <| Wv rfl (Zh rfl rfl) <| Wm rfl rfl <| Z2m 149 HF rfl (fun HF => ?_) (fun HF => ?_)
       ·refine Wv rfl (Z2 rfl Z33) <| Wv rfl (Z8 rfl Z65 (OB.cell ob322 (j := 9) rfl)) <| Wm rfl rfl <| Z2m 152 HF rfl (fun HF => ?_) (fun HF => ?_)
        ·refine Wp rfl <| Wp rfl <| Wp rfl <| Wp rfl <| Wv rfl (Zh rfl rfl) <| Wv rfl (Zh rfl rfl) ?_
         obtain ⟨r459, hr460, HF⟩ := Z6 HF
         refine Wc rfl (Zi (vs := [pt b1 0, .bool true]) rfl Z0m) (Zb _ hr460 S319.sub ob321) ?_
         rintro v461 w462 ⟨h463, s464, rfl, ob465⟩
         have S466 := S319.trans s464 (Zy (.inl (by simp)) Z0q)
         refine Z7 ?_
         have ob622 := (ob322.step1 s464 (Ne.symm ne29))
         refine Z06 [0, 2, 4] _ rfl ?_
         exact J609 ⟨h463, r459, HF, rfl, S466, s464.le, ob465, ob622⟩
        refine Wv rfl (Z2 rfl Z3f) <| Wv rfl (Z8 rfl Z2r (OB.cell ob322 (j := 8) rfl)) ?_
        obtain ⟨A467, c468, rfl, rs469⟩ := RS.form (rs23.mono ((s27.le).trans ((le36).trans ((s45.le).trans ((le127).trans ((le204).trans le318))))))
        refine Wv rfl (Z0v rfl Z1e) <| Wv rfl (Z0y rfl rfl) <| Wv rfl (Zf rfl rfl) <| Wv rfl (Zh rfl rfl) ?_
        obtain ⟨r470, hr471, HF⟩ := Z6 HF
        refine Wc rfl (Zi (vs := [pt b1 0, .bool (((x7.other.length : Int) : Int) == 0)]) rfl Z0m) (Zb _ hr471 S319.sub ob321) ?_
        rintro v472 w473 ⟨h474, s475, rfl, ob476⟩
        have S477 := S319.trans s475 (Zy (.inl (by simp)) Z0q)
        refine Z7 ?_
        have ob623 := (ob322.step1 s475 (Ne.symm ne29))
        refine Z06 [0, 2, 4] _ rfl ?_
        exact J609 ⟨h474, r470, HF, rfl, S477, s475.le, ob476, ob623⟩
       refine Wp rfl <| Wp rfl <| Wp rfl <| Wp rfl <| Wp rfl <| Wp rfl <| Wp rfl <| Wp rfl <| Wv rfl (Zf rfl rfl) ?_
       obtain ⟨r478, hr479, HF⟩ := Z6 HF
       refine Wc rfl (Zi (vs := [pt b1 0, .bool false]) rfl Z0m) (Zb _ hr479 S319.sub ob321) ?_
       rintro v480 w481 ⟨h482, s483, rfl, ob484⟩
       have S485 := S319.trans s483 (Zy (.inl (by simp)) Z0q)
       refine Z7 ?_
       have ob624 := (ob322.step1 s483 (Ne.symm ne29))
       refine Z06 [0, 2, 4] _ rfl ?_
       exact J609 ⟨h482, r478, HF, rfl, S485, s483.le, ob484, ob624⟩
      refine Wp rfl <| Wp rfl <| Wp rfl <| Wv rfl (Zf rfl rfl) <| Wv rfl (Zf rfl rfl) <| Wv rfl (Zh rfl rfl) <| Wm rfl rfl <| Wp rfl <| Wp rfl <| Wp rfl <| Wp rfl <| Wp rfl <| Wp rfl <| Wp rfl <| Wp rfl <| Wv rfl (Zf rfl rfl) ?_
      obtain ⟨r486, hr487, HF⟩ := Z6 HF
      refine Wc rfl (Zi (vs := [pt b1 0, .bool false]) rfl Z0m) (Zb _ hr487 S319.sub ob321) ?_
      rintro v488 w489 ⟨h490, s491, rfl, ob492⟩
      have S493 := S319.trans s491 (Zy (.inl (by simp)) Z0q)
      refine Z7 ?_
      have ob625 := (ob322.step1 s491 (Ne.symm ne29))
      refine Z06 [0, 2, 4] _ rfl ?_
      exact J609 ⟨h490, r486, HF, rfl, S493, s491.le, ob492, ob625⟩
     refine Wp rfl <| Wp rfl <| Wp rfl <| Wp rfl <| Wp rfl <| Wp rfl <| Wp rfl <| Wp rfl <| Wp rfl <| Wp rfl <| Wp rfl <| Wp rfl <| Wp rfl <| Wp rfl <| Wp rfl <| Wp rfl <| Wp rfl <| Wp rfl <| Wp rfl <| Wv rfl (Zf rfl rfl) <| Wm rfl rfl <| Wp rfl <| Wp rfl <| Wp rfl <| Wp rfl <| Wp rfl <| Wp rfl <| Wp rfl <| Wp rfl <| Wv rfl (Zf rfl rfl) ?_
     obtain ⟨r494, hr495, HF⟩ := Z6 HF
     refine Wc rfl (Zi (vs := [pt b1 0, .bool false]) rfl Z0m) (Zb _ hr495 S319.sub ob321) ?_
     rintro v496 w497 ⟨h498, s499, rfl, ob500⟩
     have S501 := S319.trans s499 (Zy (.inl (by simp)) Z0q)
     refine Z7 ?_
     have ob626 := (ob322.step1 s499 (Ne.symm ne29))
     refine Z06 [0, 2, 4] _ rfl ?_
     exact J609 ⟨h498, r494, HF, rfl, S501, s499.le, ob500, ob626⟩
    intro J627
    refine Z0 <| Wm rfl rfl <| Wv rfl (Z2 rfl Z1g) <| Wv rfl (Z8 rfl Z0t (OB.cell ob208 (j := 0) rfl)) <| Wv rfl (Z0y rfl rfl) <| Wm rfl rfl <| Z2m 92 HF rfl (fun HF => ?_) (fun HF => ?_)
    ·refine Wp rfl <| Wp rfl <| Wp rfl <| Wp rfl <| Wv rfl (Zh rfl rfl) <| Wm rfl rfl <| Wv rfl (Z2 rfl Z1g) <| Wv rfl (Z8 rfl Z0t (OB.cell ob208 (j := 0) rfl)) <| Wv rfl (Z0y rfl rfl) <| Wm rfl rfl <| Z2m 102 HF rfl (fun HF => ?_) (fun HF => ?_)
     ·refine Wp rfl <| Wp rfl <| Wp rfl <| Wp rfl <| Wv rfl (Zh rfl rfl) <| Wv rfl (Zh rfl rfl) <| Wm rfl rfl <| Wv rfl (Z2 rfl Z1g) <| Wv rfl (Z8 rfl Z0t (OB.cell ob208 (j := 0) rfl)) <| Wv rfl (Z0y rfl rfl) <| Wm rfl rfl <| Z2m 113 HF rfl (fun HF => ?_) (fun HF => ?_)
      ·refine Wp rfl <| Wp rfl <| Wp rfl <| Wv rfl (Zh rfl rfl) <| Wv rfl (Zh rfl rfl) ?_
       obtain ⟨r212, hr213, HF⟩ := Z6 HF
       refine Wc rfl (Zi (vs := [pt b1 0, .bool true]) rfl Z0m) (Zb _ hr213 S205.sub ob207) ?_
       rintro v214 w215 ⟨h216, s217, rfl, ob218⟩
       have S219 := S205.trans s217 (Zy (.inl (by simp)) Z0q)
       refine Z7 ?_
       have ob628 := (ob208.step1 s217 (Ne.symm ne29))
       refine Z06 [0, 2, 4, 8] _ rfl ?_
       exact J627 ⟨h216, r212, HF, rfl, S219, s217.le, ob218, ob628⟩
      refine Wv rfl (Z2 rfl Z3s) <| Wv rfl (Z8 rfl Z0t (OB.cell ob208 (j := 5) rfl)) <| Wv rfl (Z0y rfl rfl) <| Wv rfl (Zf rfl rfl) <| Wv rfl (Zh rfl rfl) ?_
      obtain ⟨r220, hr221, HF⟩ := Z6 HF
      refine Wc rfl (Zi (vs := [pt b1 0, .bool ((x7.n : Int) == 0)]) rfl Z0m) (Zb _ hr221 S205.sub ob207) ?_
      rintro v222 w223 ⟨h224, s225, rfl, ob226⟩
      have S227 := S205.trans s225 (Zy (.inl (by simp)) Z0q)
      refine Z7 ?_
      have ob629 := (ob208.step1 s225 (Ne.symm ne29))
      refine Z06 [0, 2, 4, 8] _ rfl ?_
      exact J627 ⟨h224, r220, HF, rfl, S227, s225.le, ob226, ob629⟩
     refine Wv rfl (Z2 rfl Z72) <| Wv rfl (Z8 rfl Zdl (OB.cell ob208 (j := 3) rfl)) ?_
     obtain ⟨A228, c229, rfl, rs230⟩ := RS.form (rs15.mono ((s27.le).trans ((le36).trans ((s45.le).trans ((le127).trans le204)))))
     refine Wv rfl (Z0v rfl Z26) <| Wv rfl (Z0y rfl rfl) <| Wv rfl (Zf rfl rfl) <| Wv rfl (Zh rfl rfl) <| Wm rfl rfl <| Z2m 109 HF rfl (fun HF => ?_) (fun HF => ?_)
     ·refine Wv rfl (Z2 rfl Z1g) <| Wv rfl (Z8 rfl Z0t (OB.cell ob208 (j := 0) rfl)) <| Wv rfl (Z0y rfl rfl) <| Wm rfl rfl <| Z2m 113 HF rfl (fun HF => ?_) (fun HF => ?_)
      ·refine Wp rfl <| Wp rfl <| Wp rfl <| Wv rfl (Zh rfl rfl) <| Wv rfl (Zh rfl rfl) ?_
       obtain ⟨r233, hr234, HF⟩ := Z6 HF
       refine Wc rfl (Zi (vs := [pt b1 0, .bool true]) rfl Z0m) (Zb _ hr234 S205.sub ob207) ?_
       rintro v235 w236 ⟨h237, s238, rfl, ob239⟩
       have S240 := S205.trans s238 (Zy (.inl (by simp)) Z0q)
       refine Z7 ?_
       have ob630 := (ob208.step1 s238 (Ne.symm ne29))
       refine Z06 [0, 2, 4, 8] _ rfl ?_
       exact J627 ⟨h237, r233, HF, rfl, S240, s238.le, ob239, ob630⟩
      refine Wv rfl (Z2 rfl Z3s) <| Wv rfl (Z8 rfl Z0t (OB.cell ob208 (j := 5) rfl)) <| Wv rfl (Z0y rfl rfl) <| Wv rfl (Zf rfl rfl) <| Wv rfl (Zh rfl rfl) ?_
      obtain ⟨r241, hr242, HF⟩ := Z6 HF
      refine Wc rfl (Zi (vs := [pt b1 0, .bool ((x7.n : Int) == 0)]) rfl Z0m) (Zb _ hr242 S205.sub ob207) ?_
      rintro v243 w244 ⟨h245, s246, rfl, ob247⟩
      have S248 := S205.trans s246 (Zy (.inl (by simp)) Z0q)
      refine Z7 ?_
      have ob631 := (ob208.step1 s246 (Ne.symm ne29))
      refine Z06 [0, 2, 4, 8] _ rfl ?_
      exact J627 ⟨h245, r241, HF, rfl, S248, s246.le, ob247, ob631⟩
     refine Wp rfl <| Wp rfl <| Wp rfl <| Wp rfl <| Wp rfl <| Wp rfl <| Wp rfl <| Wp rfl <| Wv rfl (Zf rfl rfl) ?_
     obtain ⟨r249, hr250, HF⟩ := Z6 HF
     refine Wc rfl (Zi (vs := [pt b1 0, .bool false]) rfl Z0m) (Zb _ hr250 S205.sub ob207) ?_
     rintro v251 w252 ⟨h253, s254, rfl, ob255⟩
     have S256 := S205.trans s254 (Zy (.inl (by simp)) Z0q)
     refine Z7 ?_
     have ob632 := (ob208.step1 s254 (Ne.symm ne29))
     refine Z06 [0, 2, 4, 8] _ rfl ?_
     exact J627 ⟨h253, r249, HF, rfl, S256, s254.le, ob255, ob632⟩
    refine Wv rfl (Z2 rfl Z5h) <| Wv rfl (Z8 rfl Z0h (OB.cell ob208 (j := 2) rfl)) ?_
    obtain ⟨A257, c258, rfl, rs259⟩ := RS.form (rs13.mono ((s27.le).trans ((le36).trans ((s45.le).trans ((le127).trans le204)))))
    refine Wv rfl (Z0v rfl Zx) <| Wv rfl (Z0y rfl rfl) <| Wv rfl (Zf rfl rfl) <| Wm rfl rfl <| Z2m 98 HF rfl (fun HF => ?_) (fun HF => ?_)
    ·refine Wv rfl (Z2 rfl Z1g) <| Wv rfl (Z8 rfl Z0t (OB.cell ob208 (j := 0) rfl)) <| Wv rfl (Z0y rfl rfl) <| Wm rfl rfl <| Z2m 102 HF rfl (fun HF => ?_) (fun HF => ?_)
     ·refine Wp rfl <| Wp rfl <| Wp rfl <| Wp rfl <| Wv rfl (Zh rfl rfl) <| Wv rfl (Zh rfl rfl) <| Wm rfl rfl <| Wv rfl (Z2 rfl Z1g) <| Wv rfl (Z8 rfl Z0t (OB.cell ob208 (j := 0) rfl)) <| Wv rfl (Z0y rfl rfl) <| Wm rfl rfl <| Z2m 113 HF rfl (fun HF => ?_) (fun HF => ?_)
      ·refine Wp rfl <| Wp rfl <| Wp rfl <| Wv rfl (Zh rfl rfl) <| Wv rfl (Zh rfl rfl) ?_
       obtain ⟨r263, hr264, HF⟩ := Z6 HF
       refine Wc rfl (Zi (vs := [pt b1 0, .bool true]) rfl Z0m) (Zb _ hr264 S205.sub ob207) ?_
       rintro v265 w266 ⟨h267, s268, rfl, ob269⟩
       have S270 := S205.trans s268 (Zy (.inl (by simp)) Z0q)
       refine Z7 ?_
       have ob633 := (ob208.step1 s268 (Ne.symm ne29))
       refine Z06 [0, 2, 4, 8] _ rfl ?_
       exact J627 ⟨h267, r263, HF, rfl, S270, s268.le, ob269, ob633⟩
      refine Wv rfl (Z2 rfl Z3s) <| Wv rfl (Z8 rfl Z0t (OB.cell ob208 (j := 5) rfl)) <| Wv rfl (Z0y rfl rfl) <| Wv rfl (Zf rfl rfl) <| Wv rfl (Zh rfl rfl) ?_
      obtain ⟨r271, hr272, HF⟩ := Z6 HF
      refine Wc rfl (Zi (vs := [pt b1 0, .bool ((x7.n : Int) == 0)]) rfl Z0m) (Zb _ hr272 S205.sub ob207) ?_
      rintro v273 w274 ⟨h275, s276, rfl, ob277⟩
      have S278 := S205.trans s276 (Zy (.inl (by simp)) Z0q)
      refine Z7 ?_
      have ob634 := (ob208.step1 s276 (Ne.symm ne29))
      refine Z06 [0, 2, 4, 8] _ rfl ?_
      exact J627 ⟨h275, r271, HF, rfl, S278, s276.le, ob277, ob634⟩
     refine Wv rfl (Z2 rfl Z72) <| Wv rfl (Z8 rfl Zdl (OB.cell ob208 (j := 3) rfl)) ?_
     obtain ⟨A279, c280, rfl, rs281⟩ := RS.form (rs15.mono ((s27.le).trans ((le36).trans ((s45.le).trans ((le127).trans le204)))))
     refine Wv rfl (Z0v rfl Z26) <| Wv rfl (Z0y rfl rfl) <| Wv rfl (Zf rfl rfl) <| Wv rfl (Zh rfl rfl) <| Wm rfl rfl <| Z2m 109 HF rfl (fun HF => ?_) (fun HF => ?_)
     ·refine Wv rfl (Z2 rfl Z1g) <| Wv rfl (Z8 rfl Z0t (OB.cell ob208 (j := 0) rfl)) <| Wv rfl (Z0y rfl rfl) <| Wm rfl rfl <| Z2m 113 HF rfl (fun HF => ?_) (fun HF => ?_)
      ·refine Wp rfl <| Wp rfl <| Wp rfl <| Wv rfl (Zh rfl rfl) <| Wv rfl (Zh rfl rfl) ?_
       obtain ⟨r284, hr285, HF⟩ := Z6 HF
       refine Wc rfl (Zi (vs := [pt b1 0, .bool true]) rfl Z0m) (Zb _ hr285 S205.sub ob207) ?_
       rintro v286 w287 ⟨h288, s289, rfl, ob290⟩
       have S291 := S205.trans s289 (Zy (.inl (by simp)) Z0q)
       refine Z7 ?_
       have ob635 := (ob208.step1 s289 (Ne.symm ne29))
       refine Z06 [0, 2, 4, 8] _ rfl ?_
       exact J627 ⟨h288, r284, HF, rfl, S291, s289.le, ob290, ob635⟩
      refine Wv rfl (Z2 rfl Z3s) <| Wv rfl (Z8 rfl Z0t (OB.cell ob208 (j := 5) rfl)) <| Wv rfl (Z0y rfl rfl) <| Wv rfl (Zf rfl rfl) <| Wv rfl (Zh rfl rfl) ?_
      obtain ⟨r292, hr293, HF⟩ := Z6 HF
      refine Wc rfl (Zi (vs := [pt b1 0, .bool ((x7.n : Int) == 0)]) rfl Z0m) (Zb _ hr293 S205.sub ob207) ?_
      rintro v294 w295 ⟨h296, s297, rfl, ob298⟩
      have S299 := S205.trans s297 (Zy (.inl (by simp)) Z0q)
      refine Z7 ?_
      have ob636 := (ob208.step1 s297 (Ne.symm ne29))
      refine Z06 [0, 2, 4, 8] _ rfl ?_
      exact J627 ⟨h296, r292, HF, rfl, S299, s297.le, ob298, ob636⟩
     refine Wp rfl <| Wp rfl <| Wp rfl <| Wp rfl <| Wp rfl <| Wp rfl <| Wp rfl <| Wp rfl <| Wv rfl (Zf rfl rfl) ?_
     obtain ⟨r300, hr301, HF⟩ := Z6 HF
     refine Wc rfl (Zi (vs := [pt b1 0, .bool false]) rfl Z0m) (Zb _ hr301 S205.sub ob207) ?_
     rintro v302 w303 ⟨h304, s305, rfl, ob306⟩
     have S307 := S205.trans s305 (Zy (.inl (by simp)) Z0q)
     refine Z7 ?_
     have ob637 := (ob208.step1 s305 (Ne.symm ne29))
     refine Z06 [0, 2, 4, 8] _ rfl ?_
     exact J627 ⟨h304, r300, HF, rfl, S307, s305.le, ob306, ob637⟩
    refine Wp rfl <| Wp rfl <| Wp rfl <| Wp rfl <| Wp rfl <| Wp rfl <| Wp rfl <| Wp rfl <| Wp rfl <| Wv rfl (Zf rfl rfl) <| Wm rfl rfl <| Wp rfl <| Wp rfl <| Wp rfl <| Wp rfl <| Wp rfl <| Wp rfl <| Wp rfl <| Wp rfl <| Wv rfl (Zf rfl rfl) ?_
    obtain ⟨r308, hr309, HF⟩ := Z6 HF
    refine Wc rfl (Zi (vs := [pt b1 0, .bool false]) rfl Z0m) (Zb _ hr309 S205.sub ob207) ?_
    rintro v310 w311 ⟨h312, s313, rfl, ob314⟩
    have S315 := S205.trans s313 (Zy (.inl (by simp)) Z0q)
    refine Z7 ?_
    have ob638 := (ob208.step1 s313 (Ne.symm ne29))
    refine Z06 [0, 2, 4, 8] _ rfl ?_
    exact J627 ⟨h312, r308, HF, rfl, S315, s313.le, ob314, ob638⟩
   intro J639
   refine Z0 <| Wm rfl rfl <| Wv rfl (Z2 rfl Z1f) <| Wv rfl (Z8 rfl Z0h (OB.cell ob134 (j := 4) rfl)) ?_
   obtain ⟨A135, c136, rfl, rs137⟩ := RS.form (rs17.mono ((s27.le).trans ((le36).trans ((s45.le).trans le127))))
   refine Wv rfl (Z0v rfl Zx) <| Wm rfl rfl <| Wv rfl (Z0y rfl rfl) <| Wm rfl rfl <| Z2m 70 HF rfl (fun HF => ?_) (fun HF => ?_)
   ·refine Wm rfl rfl <| Wm rfl rfl <| Z2m 72 HF rfl (fun HF => ?_) (fun HF => ?_)
    ·refine Wv rfl (Z2 rfl Z62) <| Wv rfl (Z8 rfl Z3l (OB.cell ob134 (j := 1) rfl)) ?_
     obtain ⟨r140, hr141, HF⟩ := Z6 HF
     refine Wc rfl (Zi (vs := [.string x7.name]) rfl t_ent_60) (Zbn _ hr141 S128.sub) ?_
     rintro _ w143 ⟨h144, s145, rfl⟩
     have S146 := S128.trans0 s145
     refine Wv rfl (Zh rfl rfl) <| Wm rfl rfl <| Z2m 77 HF rfl (fun HF => ?_) (fun HF => ?_)
     ·refine Wp rfl <| Wp rfl <| Wp rfl <| Wp rfl <| Wp rfl <| Wp rfl <| Wp rfl <| Wv rfl (Zh rfl rfl) <| Wv rfl (Zh rfl rfl) ?_
      have ob148 := (ob133.step0 s145)
      obtain ⟨r149, hr150, HF⟩ := Z6 HF
      refine Wc rfl (Zi (vs := [pt b1 0, .bool true]) rfl Z0m) (Zb _ hr150 S146.sub ob148) ?_
      rintro v151 w152 ⟨h153, s154, rfl, ob155⟩
      have S156 := S146.trans s154 (Zy (.inl (by simp)) Z0q)
      refine Z7 ?_
      have ob640 := ((ob134.step0 s145).step1 s154 (Ne.symm ne29))
      refine Z06 [0, 2, 4, 8] _ rfl ?_
      exact J639 ⟨h153, r149, HF, rfl, S156, (s145.le).trans s154.le, ob155, ob640⟩
     refine Wm rfl rfl <| Wv rfl (Z4o rfl) <| Wm rfl rfl <| Z2m 80 HF rfl (fun HF => ?_) (fun HF => ?_)
     ·refine Wv rfl (Z2 rfl Z62) ?_
      have ob158 := (ob134.step0 s145)
      refine Wv rfl (Z8 rfl Z3l (OB.cell ob158 (j := 1) rfl)) <| Wv rfl (Z0g rfl rfl) <| Wv rfl (Zh rfl rfl) <| Wv rfl (Zf rfl rfl) <| Wv rfl (Zh rfl rfl) ?_
      have ob159 := (ob133.step0 s145)
      obtain ⟨r160, hr161, HF⟩ := Z6 HF
      refine Wc rfl (Zi (vs := [pt b1 0, .bool (bEq x7.name Z2c)]) rfl Z0m) (Zb _ hr161 S146.sub ob159) ?_
      rintro v162 w163 ⟨h164, s165, rfl, ob166⟩
      have S167 := S146.trans s165 (Zy (.inl (by simp)) Z0q)
      refine Z7 ?_
      have ob641 := (ob158.step1 s165 (Ne.symm ne29))
      refine Z06 [0, 2, 4, 8] _ rfl ?_
      exact J639 ⟨h164, r160, HF, rfl, S167, (s145.le).trans s165.le, ob166, ob641⟩
     refine Wp rfl <| Wp rfl <| Wp rfl <| Wv rfl (Zf rfl rfl) <| Wv rfl (Zf rfl rfl) <| Wv rfl (Zh rfl rfl) ?_
     have ob168 := (ob133.step0 s145)
     obtain ⟨r169, hr170, HF⟩ := Z6 HF
     refine Wc rfl (Zi (vs := [pt b1 0, .bool false]) rfl Z0m) (Zb _ hr170 S146.sub ob168) ?_
     rintro v171 w172 ⟨h173, s174, rfl, ob175⟩
     have S176 := S146.trans s174 (Zy (.inl (by simp)) Z0q)
     refine Z7 ?_
     have ob642 := ((ob134.step0 s145).step1 s174 (Ne.symm ne29))
     refine Z06 [0, 2, 4, 8] _ rfl ?_
     exact J639 ⟨h173, r169, HF, rfl, S176, (s145.le).trans s174.le, ob175, ob642⟩
    refine Wp rfl <| Wp rfl <| Wp rfl <| Wv rfl (Zf rfl rfl) <| Wm rfl rfl <| Wm rfl rfl <| Wv rfl (Z4o rfl) <| Wm rfl rfl <| Z2m 80 HF rfl (fun HF => ?_) (fun HF => ?_)
    ·refine Wv rfl (Z2 rfl Z62) <| Wv rfl (Z8 rfl Z3l (OB.cell ob134 (j := 1) rfl)) <| Wv rfl (Z0g rfl rfl) <| Wv rfl (Zh rfl rfl) <| Wv rfl (Zf rfl rfl) <| Wv rfl (Zh rfl rfl) ?_
     obtain ⟨r178, hr179, HF⟩ := Z6 HF
     refine Wc rfl (Zi (vs := [pt b1 0, .bool (bEq x7.name Z2c)]) rfl Z0m) (Zb _ hr179 S128.sub ob133) ?_
     rintro v180 w181 ⟨h182, s183, rfl, ob184⟩
     have S185 := S128.trans s183 (Zy (.inl (by simp)) Z0q)
     refine Z7 ?_
     have ob643 := (ob134.step1 s183 (Ne.symm ne29))
     refine Z06 [0, 2, 4, 8] _ rfl ?_
     exact J639 ⟨h182, r178, HF, rfl, S185, s183.le, ob184, ob643⟩
    refine Wp rfl <| Wp rfl <| Wp rfl <| Wv rfl (Zf rfl rfl) <| Wv rfl (Zf rfl rfl) <| Wv rfl (Zh rfl rfl) ?_
    obtain ⟨r186, hr187, HF⟩ := Z6 HF
    refine Wc rfl (Zi (vs := [pt b1 0, .bool false]) rfl Z0m) (Zb _ hr187 S128.sub ob133) ?_
    rintro v188 w189 ⟨h190, s191, rfl, ob192⟩
    have S193 := S128.trans s191 (Zy (.inl (by simp)) Z0q)
    refine Z7 ?_
    have ob644 := (ob134.step1 s191 (Ne.symm ne29))
    refine Z06 [0, 2, 4, 8] _ rfl ?_
    exact J639 ⟨h190, r186, HF, rfl, S193, s191.le, ob192, ob644⟩
   refine Wp rfl <| Wp rfl <| Wp rfl <| Wp rfl <| Wp rfl <| Wp rfl <| Wp rfl <| Wp rfl <| Wp rfl <| Wp rfl <| Wp rfl <| Wp rfl <| Wp rfl <| Wp rfl <| Wp rfl <| Wv rfl (Zf rfl rfl) ?_
   obtain ⟨r194, hr195, HF⟩ := Z6 HF
   refine Wc rfl (Zi (vs := [pt b1 0, .bool false]) rfl Z0m) (Zb _ hr195 S128.sub ob133) ?_
   rintro v196 w197 ⟨h198, s199, rfl, ob200⟩
   have S201 := S128.trans s199 (Zy (.inl (by simp)) Z0q)
   refine Z7 ?_
   have ob645 := (ob134.step1 s199 (Ne.symm ne29))
   refine Z06 [0, 2, 4, 8] _ rfl ?_
   exact J639 ⟨h198, r194, HF, rfl, S201, s199.le, ob200, ob645⟩
  intro J646
  refine Za <| Z0 <| Wv rfl (Z2 rfl Z1g) ?_
  have ob48 := (ob39.step1 s45 (Ne.symm ne29))
  refine Wv rfl (Z8 rfl Z0t (OB.cell ob48 (j := 0) rfl)) <| Z7 <| Z5 <| Z0c <| Za <| Z0 <| Wv rfl (Z0y rfl rfl) <| Wa rfl rfl <| Z7 <| Z5 <| Z12 HF rfl (fun HF => ?_) (fun HF => ?_)
  ·refine Za <| Z0 <| Wa rfl rfl <| Z7 <| Z5 <| Z0 <| Wm rfl rfl <| Wv rfl (Z2 rfl Z5h) <| Wv rfl (Z8 rfl Z0h (OB.cell ob48 (j := 2) rfl)) ?_
   obtain ⟨A50, c51, rfl, rs52⟩ := RS.form (rs13.mono ((s27.le).trans ((le36).trans s45.le)))
   refine Wv rfl (Z0v rfl Zx) <| Wv rfl (Zdo rfl rfl) ?_
   obtain ⟨r53, hr54, HF⟩ := Z6 HF
   refine Wc rfl (Zi (vs := [pt b1 0, .bool (decide (((x7.index.length : Int) : Int) ≤ 1))]) rfl Z0m) (Zb _ hr54 S47.sub ob46) ?_
   rintro v55 w56 ⟨h57, s58, rfl, ob59⟩
   have S60 := S47.trans s58 (Zy (.inl (by simp)) Z0q)
   refine Z7 <| Zv ?_
   have ob647 := (ob48.step1 s58 (Ne.symm ne29))
   refine Z06 [0, 2, 4, 6, 7, 8] _ rfl ?_
   exact J646 ⟨h57, 1, true, false, r53, HF, rfl, S60, s58.le, ob59, ob647⟩
  refine Za <| Z0 <| Wv rfl (Z0y rfl rfl) <| Wa rfl rfl <| Z7 <| Z5 <| Z12 HF rfl (fun HF => ?_) (fun HF => ?_)
  ·refine Za <| Z0 <| Wv rfl (Z2 rfl Z1f) <| Wv rfl (Z8 rfl Z0h (OB.cell ob48 (j := 4) rfl)) ?_
   obtain ⟨A62, c63, rfl, rs64⟩ := RS.form (rs17.mono ((s27.le).trans ((le36).trans s45.le)))
   refine Wv rfl (Z0v rfl Zx) <| Wa rfl rfl <| Wa rfl rfl <| Z7 <| Z5 <| Z0 <| Wm rfl rfl <| Wv rfl (Z2 rfl Z72) <| Wv rfl (Z8 rfl Zdl (OB.cell ob48 (j := 3) rfl)) <| Wv rfl (Z2 rfl Z1f) <| Wv rfl (Z8 rfl Z0h (OB.cell ob48 (j := 4) rfl)) <| Wv rfl (Z0v rfl Zx) ?_
   obtain ⟨r65, hr66, HF⟩ := Z6 HF
   refine Wc rfl (Zi (vs := [pt b1 0, v14, vi (x7.args.length : Int)]) rfl t_ent_97) (ok_ref02_Size_Named _ hr66 S47.sub (rs15.mono ((s27.le).trans ((le36).trans s45.le))) ob46) ?_
   rintro v67 w68 ⟨h69, s70, rfl, ob71⟩
   have S72 := S47.trans s70 (Zy (.inl (by simp)) Z0q)
   refine Z7 <| Zv ?_
   have ob648 := (ob48.step1 s70 (Ne.symm ne29))
   refine Z06 [0, 2, 4, 6, 7, 8] _ rfl ?_
   exact J646 ⟨h69, (x7.args.length : Int), true, false, r65, HF, rfl, S72, s70.le, ob71, ob648⟩
  refine Za <| Z0 <| Wv rfl (Z0y rfl rfl) <| Wa rfl rfl <| Z7 <| Z5 <| Z12 HF rfl (fun HF => ?_) (fun HF => ?_)
  ·refine Z0 <| Wa rfl rfl <| Z7 <| Zv <| Z06 [0, 2, 4, 6, 7, 8] _ rfl ?_
   exact J646 ⟨h44, 1, false, true, r40.2.2, HF, rfl, S47, Hle.refl _, ob46, ob48⟩
  refine Za <| Z0 <| Wv rfl (Z0y rfl rfl) <| Wa rfl rfl <| Z7 <| Z5 <| Z12 HF rfl (fun HF => ?_) (fun HF => ?_)
  ·refine Zm <| Zv <| Z06 [0, 2, 4, 6, 7, 8] _ rfl ?_
   exact J646 ⟨h44, 1, false, false, r40.2.2, HF, rfl, S47, Hle.refl _, ob46, ob48⟩
  refine Za <| Z0 <| Wv rfl (Z0y rfl rfl) <| Wa rfl rfl <| Z7 <| Z5 <| Z12 HF rfl (fun HF => ?_) (fun HF => ?_)
  ·refine Za <| Z0 <| Wa rfl rfl <| Wa rfl rfl <| Wa rfl rfl <| Z7 <| Z5 <| Z0 <| Wm rfl rfl <| Wv rfl (Z2 rfl Z3s) <| Wv rfl (Z8 rfl Z0t (OB.cell ob48 (j := 5) rfl)) <| Wv rfl (ov_neq rfl rfl) <| Wm rfl rfl <| Z2m 52 HF rfl (fun HF => ?_) (fun HF => ?_)
   ·refine Wv rfl (Z2 rfl Z3s) <| Wv rfl (Z8 rfl Z0t (OB.cell ob48 (j := 5) rfl)) ?_
    obtain ⟨r77, hr78, HF⟩ := Z6 HF
    refine Wc rfl (Zi (vs := [vi x7.n]) rfl t_ent_98) (ok_ref02_label _ hr78 S47.sub) ?_
    rintro _ w80 ⟨h81, s82, rfl⟩
    have S83 := S47.trans0 s82
    refine Wv rfl (Zh rfl rfl) ?_
    have ob84 := (ob46.step0 s82)
    obtain ⟨r85, hr86, HF⟩ := Z6 HF
    refine Wc rfl (Zi (vs := [pt b1 0, .bool r77]) rfl Z0m) (Zb _ hr86 S83.sub ob84) ?_
    rintro v87 w88 ⟨h89, s90, rfl, ob91⟩
    have S92 := S83.trans s90 (Zy (.inl (by simp)) Z0q)
    refine Z7 <| Zv ?_
    have ob649 := ((ob48.step0 s82).step1 s90 (Ne.symm ne29))
    refine Z06 [0, 2, 4, 6, 7, 8] _ rfl ?_
    exact J646 ⟨h89, 2, true, true, r85, HF, rfl, S92, (s82.le).trans s90.le, ob91, ob649⟩
   refine Wp rfl <| Wp rfl <| Wp rfl <| Wv rfl (Zf rfl rfl) ?_
   obtain ⟨r93, hr94, HF⟩ := Z6 HF
   refine Wc rfl (Zi (vs := [pt b1 0, .bool false]) rfl Z0m) (Zb _ hr94 S47.sub ob46) ?_
   rintro v95 w96 ⟨h97, s98, rfl, ob99⟩
   have S100 := S47.trans s98 (Zy (.inl (by simp)) Z0q)
   refine Z7 <| Zv ?_
   have ob650 := (ob48.step1 s98 (Ne.symm ne29))
   refine Z06 [0, 2, 4, 6, 7, 8] _ rfl ?_
   exact J646 ⟨h97, 2, true, true, r93, HF, rfl, S100, s98.le, ob99, ob650⟩
  refine Z04 (fun E w103 => ∃ (h102 : Hp) (x106 : Bool), Z8p k (Ze k) x7 x10 r40 x106 = some r ∧ E = [(0, pt b1 0), (2, vi x10), (4, pt b25 0), (6, vi 1), (7, .bool false), (8, .bool false), (18, vi x7.op), (58, .bool x106)] ∧ Stp [b1] w0 h0 w103 h102 ∧ Hle h44 h102 ∧ OB w103 h102 b1 T2 [vi r40.1, vi r40.2.1, .bool r40.2.2] ∧ OB w103 h102 b25 44 [vi x7.op, .string x7.name, v12, v14, v16, vi x7.n, v18, v20, v22, .bool x7.els]) ?_ ?_
  ·rintro E w103 ⟨h102, x106, HF, rfl, S105, le104, ob107, ob108⟩
   refine Z12 HF rfl (fun HF => ?_) (fun HF => ?_)
   ·refine Z0 <| Wa rfl rfl <| Z7 <| Zv <| Z06 [0, 2, 4, 6, 7, 8] _ rfl ?_
    exact J646 ⟨h102, 1, false, true, r40.2.2, HF, rfl, S105, le104, ob107, ob108⟩
   refine Z04 (fun E w112 => ∃ (h111 : Hp) (x115 : Bool), Z8h k (Ze k) x7 x10 r40 x115 = some r ∧ E = [(0, pt b1 0), (2, vi x10), (4, pt b25 0), (6, vi 1), (7, .bool false), (8, .bool false), (61, .bool x115)] ∧ Stp [b1] w0 h0 w112 h111 ∧ Hle h102 h111 ∧ OB w112 h111 b1 T2 [vi r40.1, vi r40.2.1, .bool r40.2.2] ∧ OB w112 h111 b25 44 [vi x7.op, .string x7.name, v12, v14, v16, vi x7.n, v18, v20, v22, .bool x7.els]) ?_ ?_
   ·rintro E w112 ⟨h111, x115, HF, rfl, S114, le113, ob116, ob117⟩
    refine Z12 HF rfl (fun HF => ?_) (fun HF => ?_)
    ·refine Z0 <| Wa rfl rfl <| Z7 <| Zv <| Z06 [0, 2, 4, 6, 7, 8] _ rfl ?_
     exact J646 ⟨h111, 0, false, false, r40.2.2, HF, rfl, S114, (le104).trans le113, ob116, ob117⟩
    refine Z0 <| Wm rfl rfl <| Wv rfl (Z02 rfl) <| Wv rfl (Z2 rfl Z5z) <| Z5i (vs := [.bool true]) rfl rfl rfl rfl t_size_4 (Z0d rfl Z76) ob116 S114.sub (by simp) (ds := [vi r40.1, vi r40.2.1, .bool true]) rfl (fun w119 s120 ob121 => ?_)
    have S122 := S114.trans1 s120 (.inl (by simp))
    refine Z7 <| Zv ?_
    have ob651 := (ob117.step1 s120 (Ne.symm ne29))
    refine Z06 [0, 2, 4, 6, 7, 8] _ rfl ?_
    exact J646 ⟨h111, 1, false, false, true, HF, rfl, S122, (le104).trans ((le113).trans s120.le), ob121, ob651⟩
   intro J123
   refine Za <| Z0 <| Wv rfl (Z0y rfl rfl) <| Wa rfl rfl <| Z7 <| Z5 <| Z12 HF rfl (fun HF => ?_) (fun HF => ?_)
   ·refine Zm <| Z06 [0, 2, 4, 6, 7, 8, 61] _ rfl ?_
    exact J123 ⟨h102, (x7.op : Int) == 8, HF, rfl, S105, Hle.refl _, ob107, ob108⟩
   refine Z0 <| Wv rfl (Z0y rfl rfl) <| Wa rfl rfl <| Z7 <| Z06 [0, 2, 4, 6, 7, 8, 61] _ rfl ?_
   exact J123 ⟨h102, (x7.op : Int) == 9, HF, rfl, S105, Hle.refl _, ob107, ob108⟩
  intro J124
  refine Za <| Z0 <| Wv rfl (Z0y rfl rfl) <| Wa rfl rfl <| Z7 <| Z5 <| Z12 HF rfl (fun HF => ?_) (fun HF => ?_)
  ·refine Zm <| Z06 [0, 2, 4, 6, 7, 8, 18, 58] _ rfl ?_
   exact J124 ⟨h44, (x7.op : Int) == 6, HF, rfl, S47, Hle.refl _, ob46, ob48⟩
  refine Z0 <| Wv rfl (Z0y rfl rfl) <| Wa rfl rfl <| Z7 <| Z06 [0, 2, 4, 6, 7, 8, 18, 58] _ rfl ?_
  exact J124 ⟨h44, (x7.op : Int) == 7, HF, rfl, S47, Hle.refl _, ob46, ob48⟩
 intro J652
 refine Za <| Z0 <| Wm rfl rfl <| Wv rfl (Z02 rfl) <| Wv rfl (Z2 rfl Z5z) ?_
 have ob32 := (ob6.step0 s27)
 refine Wv rfl (Z8 rfl Z65 (OB.cell ob32 (j := 2) rfl)) <| Z7 <| Z5 <| Z12 HF rfl (fun HF => ?_) (fun HF => ?_)
 ·refine Z09 <| Zp <| WQ.ret0 rfl ?_
  obtain rfl := Option.some.inj HF
  exact ⟨_, rfl, h0, S31, rfl, ob32⟩
 refine Zm <| Z06 [0, 2, 4] _ rfl ?_
 exact J652 ⟨h0, HF, rfl, S31, Hle.refl _, ob32, ob28⟩
theorem s_ref02_Size_Stmts (k : Nat) (IH : ∀ j, j ≤ k → Z6b (Ze j).ref02_Size_arm ∧ Z5o (Ze j).ref02_Size_stmt ∧ Z5d (Ze j).ref02_Size_Stmts) : Z5d (Zb9 k (Ze k)) := by
 intro x3 x4 x5 xs7 x10 r HF w0 h0 b1 T2 v8 hs0 rs9 ob6
 have S0 : Stp [b1] w0 h0 w0 h0 := Stp.refl hs0 _
 have lt11 : b1 < w0.heap.size := OB.lt ob6
 refine Z66 (n := 27) Tryz.func52 rfl Tryz.ntmps52 rfl [(0, pt b1 0), (1, v8), (2, vi x10)] rfl <| Za <| Z0 <| Wa rfl rfl <| Z7 <| Z5 <| Z0c <| Z4j <| Z8e [0, 1, 2, 6] [(0, pt b1 0), (1, v8), (2, vi x10), (6, vi 0)] rfl <| Z4m (K := k) (fun j E w13 => ∃ (h12 : Hp) (x16 : Int) (x17 : Int) (x18 : Int) (x19 : Bool), (Ze j).ref02_Size_Stmts_l1 xs7 x10 x16 x17 x18 x19 = some r ∧ E = [(0, pt b1 0), (1, v8), (2, vi x10), (6, vi x16)] ∧ Stp [b1] w0 h0 w13 h12 ∧ Hle h0 h12 ∧ OB w13 h12 b1 T2 [vi x17, vi x18, .bool x19]) ?_ ?_ (j := k) (Nat.le_refl _) ?_
 ·rintro E w13 ⟨_, _, _, _, _, HF, _⟩; cases HF
 ·rintro j21 hj23 IHL22 E w13 ⟨h12, x16, x17, x18, x19, HF, rfl, S15, le14, ob20⟩
  refine Z04 (fun E w37 => ∃ (h36 : Hp), Z9y j21 (Ze j21) xs7 x10 x16 x17 x18 x19 = some r ∧ E = [(0, pt b1 0), (1, v8), (2, vi x10), (6, vi x16)] ∧ Stp [b1] w0 h0 w37 h36 ∧ Hle h12 h36 ∧ OB w37 h36 b1 T2 [vi x17, vi x18, .bool x19]) ?_ ?_
  ·rintro E w37 ⟨h36, HF, rfl, S39, le38, ob40⟩
   refine Za <| Z0c <| Z0 <| Wm rfl rfl <| Wm rfl rfl <| Wm rfl rfl ?_
   obtain ⟨A41, c42, rfl, rs43⟩ := RS.form (rs9.mono ((le14).trans le38))
   obtain ⟨e44, he45, HF⟩ := Z6 HF
   obtain ⟨b46, o47, rfl, h49, h50, ra48⟩ := RS.atO rs43 he45
   obtain ⟨cs51, r52, hc53⟩ := ra48
   refine Wv rfl (Zk rfl rfl Z1e Z2g h49 h50) <| Wv rfl (Z0w (cs := cs51) rfl Zb8 (by rw [Rp.len r52]; exact Z2g) (fun j v hv => S39.sub.at_ _ _ _ (hc53 j v hv))) <| Wm rfl rfl ?_
   obtain ⟨r54, hr55, HF⟩ := Z6 HF
   refine Wc rfl (Zi (vs := [pt b1 0, .agg cs51.toArray, vi x10]) rfl t_ent_75) ((IH _ (Nat.le_trans (Nat.le_of_succ_le hj23) (Nat.le_refl _))).2.1 hr55 S39.sub r52 ob40) ?_
   rintro v56 w57 ⟨h58, s59, rfl, ob60⟩
   have S61 := S39.trans s59 (Zy (.inl (by simp)) Z0q)
   refine Z7 <| Zv <| Z5 <| Z0 <| Wm rfl rfl <| Wv rfl (Z2v rfl rfl) <| Wa rfl rfl <| Z7 <| Z2x <| Z8e [0, 1, 2, 6] [(0, pt b1 0), (1, sl b46 o47 (xs7).length c42), (2, vi x10), (6, vi (IntKind.i64.wrap (x16 + 1)))] rfl ?_
   exact IHL22 j21 (Nat.le_refl _) _ _ ⟨h58, IntKind.i64.wrap (x16 + 1), r54.1, r54.2.1, r54.2.2, HF, rfl, S61, (le14).trans ((le38).trans s59.le), ob60⟩
  intro J62
  refine Z04 (fun E w29 => ∃ (h28 : Hp) (x32 : Bool), Z4v j21 (Ze j21) xs7 x10 x16 x17 x18 x19 x32 = some r ∧ E = [(0, pt b1 0), (1, v8), (2, vi x10), (6, vi x16), (17, .bool x32)] ∧ Stp [b1] w0 h0 w29 h28 ∧ Hle h12 h28 ∧ OB w29 h28 b1 T2 [vi x17, vi x18, .bool x19]) ?_ ?_
  ·rintro E w29 ⟨h28, x32, HF, rfl, S31, le30, ob33⟩
   refine Z12 HF rfl (fun HF => ?_) (fun HF => ?_)
   ·refine Zm <| Z06 [0, 1, 2, 6] _ rfl ?_
    exact J62 ⟨h28, HF, rfl, S31, le30, ob33⟩
   refine Z4b <| Zr <| Zr <| Z0x <| Z5v rfl ?_
   obtain rfl := Option.some.inj HF
   exact ⟨_, rfl, h28, S31, rfl, ob33⟩
  intro J35
  refine Z0 <| Wm rfl rfl <| Wm rfl rfl ?_
  obtain ⟨A24, c25, rfl, rs26⟩ := RS.form (rs9.mono (le14))
  refine Wv rfl (Z0v rfl Z1e) <| Wv rfl (Z6q rfl rfl) <| Wm rfl rfl <| Z2m 11 HF rfl (fun HF => ?_) (fun HF => ?_)
  ·refine Wm rfl rfl <| Wv rfl (Z02 rfl) <| Wv rfl (Z2 rfl Z5z) <| Wv rfl (Z8 rfl Z65 (OB.cell ob20 (j := 2) rfl)) <| Wv rfl (Z4o rfl) <| Wv rfl (Zh rfl rfl) <| Z7 <| Z06 [0, 1, 2, 6, 17] _ rfl ?_
   exact J35 ⟨h12, !x19, HF, rfl, S15, Hle.refl _, ob20⟩
  refine Wp rfl <| Wp rfl <| Wp rfl <| Wp rfl <| Wp rfl <| Wv rfl (Zf rfl rfl) <| Z7 <| Z06 [0, 1, 2, 6, 17] _ rfl ?_
  exact J35 ⟨h12, false, HF, rfl, S15, Hle.refl _, ob20⟩
 exact ⟨h0, 0, x3, x4, x5, HF, rfl, S0, Hle.refl _, ob6⟩
theorem Zat : ∀ k j, j ≤ k → Z6b (Ze j).ref02_Size_arm ∧ Z5o (Ze j).ref02_Size_stmt ∧ Z5d (Ze j).ref02_Size_Stmts := by
  intro k
  induction k with
  | zero =>
    intro j hj
    obtain rfl : j = 0 := by omega
    exact ⟨(fun _ _ _ _ _ _ _ => by intro h; cases h), (fun _ _ _ _ _ _ => by intro h; cases h), (fun _ _ _ _ _ _ => by intro h; cases h)⟩
  | succ k ih =>
    intro j hj
    by_cases h : j ≤ k
    · exact ih j h
    · obtain rfl : j = k + 1 := by omega
      exact ⟨s_ref02_Size_arm k ih, s_ref02_Size_stmt k ih, s_ref02_Size_Stmts k ih⟩
theorem ok_ref02_Size_arm (k : Nat) : Z6b (Zcs k) := (Zat k k (Nat.le_refl _)).1
theorem ok_ref02_Size_stmt (k : Nat) : Z5o (Zc0 k) := (Zat k k (Nat.le_refl _)).2.1
theorem ok_ref02_Size_Stmts (k : Nat) : Z5d (Z16 k) := (Zat k k (Nat.le_refl _)).2.2

def C_ref02_Measure (φ : (List St) → Option (Int × Int × Bool)) : Prop := ∀ ⦃xs1 : List St⦄ ⦃r : Int × Int × Bool⦄, φ xs1 = some r → ∀ ⦃w0 : World⦄ ⦃h0 : Hp⦄ ⦃v2 : Value⦄, Sub h0 w0 → RS h0 v2 xs1 →
  Calls Tryz.prog 23 #[v2] w0 fun e w1 => ∃ v, e = .returned v ∧ ∃ h1, Stp [] w0 h0 w1 h1 ∧ v = .agg #[.int .i64 r.1, .int .i64 r.2.1, .bool r.2.2]
theorem s_ref02_Measure (k : Nat) : C_ref02_Measure (Zdp k) := by
 intro xs1 r HF w0 h0 v2 hs0 rs3
 have S0 : Stp [] w0 h0 w0 h0 := Stp.refl hs0 _
 refine Z66 (n := 12) Tryz.func23 rfl Tryz.ntmps23 rfl [(0, v2)] rfl <| Za <| Z0 <| Za3 (zs := [vi 0, vi 0, .bool false]) rfl rfl t_zero_60 rfl S0.sub (fun w4 b5 hb6 s7 ob8 => ?_)
 have g9 : w0.heap.size ≤ b5 := by rw [hb6]; exact S0.size
 have S10 := S0.trans0 s7
 refine Z7 <| Z5 <| Za <| Z0 <| Wv rfl (Z3o (vs := []) (cs := [vi 0, vi 0, .bool false]) rfl t_places_60 t_zero_60 rfl) <| Zd2 (cs := [vi 0, vi 0, .bool false]) rfl rfl rfl rfl S10.sub (fun w11 b12 hb13 s14 ob15 => ?_)
 have ne16 : b5 ≠ b12 := ob8.ne_new hb13
 have g17 : w0.heap.size ≤ b12 := by rw [hb13]; exact S10.size
 have S18 := S10.trans0 s14
 refine Wa rfl rfl <| Z7 <| Z5 <| Za <| Z0 <| Wm rfl rfl <| Wm rfl rfl ?_
 obtain ⟨r19, hr20, HF⟩ := Z6 HF
 refine Wc rfl (Zi (vs := [pt b12 0, v2, vi 1]) rfl t_ent_52) (ok_ref02_Size_Stmts _ hr20 S18.sub (rs3.mono ((s7.le).trans s14.le)) ob15) ?_
 rintro v21 w22 ⟨h23, s24, rfl, ob25⟩
 have S26 := S18.trans s24 (Zy (.inr g17) Z0q)
 refine Z7 <| Z5 <| Za <| Z0 <| Wm rfl rfl <| Wv rfl (Z02 rfl) <| Wv rfl (Z0w (cs := [vi r19.1, vi r19.2.1, .bool r19.2.2]) rfl t_agg_60 t_size_60 (OB.cells ob25 0 rfl)) ?_
 have ob27 := ((ob8.step0 s14).step1 s24 ne16)
 refine Z5i (vs := [vi r19.1, vi r19.2.1, .bool r19.2.2]) rfl rfl rfl rfl t_size_60 (Z0d rfl (Z0d rfl (Z0d rfl Z76))) ob27 S26.sub (by simp) (ds := [vi r19.1, vi r19.2.1, .bool r19.2.2]) rfl (fun w28 s29 ob30 => ?_)
 have S31 := S26.trans1 s29 (.inr g9)
 refine Z7 <| Z5 <| Z09 <| WQ.retC1 rfl rfl (run_loadVarN (cs := [vi r19.1, vi r19.2.1, .bool r19.2.2]) t_agg_60 t_size_60 (OB.cells ob30 0 rfl)) ?_
 obtain rfl := Option.some.inj HF
 exact ⟨_, rfl, h23, S31, rfl⟩
theorem ok_ref02_Measure (k : Nat) : C_ref02_Measure (Zdp k) := s_ref02_Measure k

def C_ref02_Well (φ : (List St) → Option Bool) : Prop := ∀ ⦃xs1 : List St⦄ ⦃r : Bool⦄, φ xs1 = some r → ∀ ⦃w0 : World⦄ ⦃h0 : Hp⦄ ⦃v2 : Value⦄, Sub h0 w0 → RS h0 v2 xs1 →
  Calls Tryz.prog 10 #[v2] w0 fun e w1 => ∃ v, e = .returned v ∧ ∃ h1, Stp [] w0 h0 w1 h1 ∧ v = .bool r
theorem s_ref02_Well (k : Nat) : C_ref02_Well (Zay k) := by
 intro xs1 r HF w0 h0 v2 hs0 rs3
 have S0 : Stp [] w0 h0 w0 h0 := Stp.refl hs0 _
 refine Z66 (n := 7) Tryz.func10 rfl Tryz.ntmps10 rfl [(0, v2)] rfl <| Za <| Z0 <| Wa rfl rfl <| Z7 <| Z5 <| Za <| Z0 <| Wm rfl rfl ?_
 obtain ⟨r4, hr5, HF⟩ := Z6 HF
 refine Wc rfl (Zi (vs := [v2]) rfl t_ent_23) (ok_ref02_Measure _ hr5 S0.sub rs3) ?_
 rintro _ w7 ⟨h8, s9, rfl⟩
 have S10 := S0.trans0 s9
 refine Wv rfl (ov_field1 rfl t_fld_60_2 Z65 rfl) <| Wv rfl (Z4o rfl) <| Wa rfl rfl <| Z7 <| Z5 <| Z09 <| Zt rfl rfl ?_
 obtain rfl := Option.some.inj HF
 exact ⟨_, rfl, h8, S10, rfl⟩
theorem ok_ref02_Well (k : Nat) : C_ref02_Well (Zay k) := s_ref02_Well k

def C_ast_IsExpr (φ : Ex → Option Bool) : Prop := ∀ ⦃x1 : Ex⦄ ⦃r : Bool⦄, φ x1 = some r → ∀ ⦃w0 : World⦄ ⦃h0 : Hp⦄ ⦃cs2 : List Value⦄, Sub h0 w0 → Rp.R h0 x1 cs2 →
  Calls Tryz.prog 26 #[.agg cs2.toArray] w0 fun e w1 => ∃ v, e = .returned v ∧ ∃ h1, Stp [] w0 h0 w1 h1 ∧ v = .bool r
theorem s_ast_IsExpr (k : Nat) : C_ast_IsExpr (F_ast_IsExpr k) := by
 intro x1 r HF w0 h0 cs2 hs0 r3
 have S0 : Stp [] w0 h0 w0 h0 := Stp.refl hs0 _
 refine Z66 (n := 6) Tryz.func26 rfl Tryz.ntmps26 rfl [(0, .agg cs2.toArray)] rfl <| Za <| Z0 ?_
 obtain ⟨v4, rfl, rs5⟩ := rp_Ex.1 r3
 refine Zd2 (cs := [vi x1.op, vi x1.kind, vi x1.n, .string x1.s, .string x1.f, v4]) rfl rfl rfl rfl S0.sub (fun w6 b7 hb8 s9 ob10 => ?_)
 have g11 : w0.heap.size ≤ b7 := by rw [hb8]; exact S0.size
 have S12 := S0.trans0 s9
 refine Wa rfl rfl <| Z7 <| Z5 <| Za <| Z0 <| Za3 (zs := [vi 0, vi 0]) rfl rfl t_zero_75 rfl S12.sub (fun w13 b14 hb15 s16 ob17 => ?_)
 have ne18 : b7 ≠ b14 := ob10.ne_new hb15
 have g19 : w0.heap.size ≤ b14 := by rw [hb15]; exact S12.size
 have S20 := S12.trans0 s16
 refine Z7 <| Z5 <| Za <| Z0 ?_
 have ob21 := (ob10.step0 s16)
 refine Wv rfl (Z0w (cs := [vi x1.op, vi x1.kind, vi x1.n, .string x1.s, .string x1.f, v4]) rfl Z1u Zu (OB.cells ob21 0 rfl)) ?_
 obtain ⟨r22, hr23, HF⟩ := Z6 HF
 refine Wc rfl (Zi (vs := [pt b14 0, .agg #[vi x1.op, vi x1.kind, vi x1.n, .string x1.s, .string x1.f, v4], vi 1]) rfl t_ent_54) (ok_ast_Counter_Expr _ hr23 S20.sub (rp_Ex.2 ⟨_, rfl, (rs5.mono ((s9.le).trans s16.le))⟩) ob17) ?_
 rintro _ w25 ⟨h26, s27, rfl, ob28⟩
 have S29 := S20.trans s27 (Zy (.inr g19) Z0q)
 refine Wa rfl rfl <| Z7 <| Z5 <| Z09 <| Zt rfl rfl ?_
 obtain rfl := Option.some.inj HF
 exact ⟨_, rfl, h26, S29, rfl⟩
theorem ok_ast_IsExpr (k : Nat) : C_ast_IsExpr (F_ast_IsExpr k) := s_ast_IsExpr k

def C_print_Expr (φ : Ex → Option (ByteArray × Int)) : Prop := ∀ ⦃x1 : Ex⦄ ⦃r : ByteArray × Int⦄, φ x1 = some r → ∀ ⦃w0 : World⦄ ⦃h0 : Hp⦄ ⦃cs2 : List Value⦄, Sub h0 w0 → Rp.R h0 x1 cs2 →
  Calls Tryz.prog 14 #[.agg cs2.toArray] w0 fun e w1 => ∃ v, e = .returned v ∧ ∃ h1, Stp [] w0 h0 w1 h1 ∧ (∃ u0 u1 : Value, v = .tuple #[u0, u1] ∧ (u0 = .string r.1) ∧ (u1 = .int .i64 r.2))
theorem s_print_Expr (k : Nat) : C_print_Expr (F_print_Expr k) := by
 intro x1 r HF w0 h0 cs2 hs0 r3
 have S0 : Stp [] w0 h0 w0 h0 := Stp.refl hs0 _
 refine Z66 (n := 9) Tryz.func14 rfl Tryz.ntmps14 rfl [(0, .agg cs2.toArray)] rfl <| Za <| Z0 ?_
 obtain ⟨v4, rfl, rs5⟩ := rp_Ex.1 r3
 refine Zd2 (cs := [vi x1.op, vi x1.kind, vi x1.n, .string x1.s, .string x1.f, v4]) rfl rfl rfl rfl S0.sub (fun w6 b7 hb8 s9 ob10 => ?_)
 have g11 : w0.heap.size ≤ b7 := by rw [hb8]; exact S0.size
 have S12 := S0.trans0 s9
 refine Wa rfl rfl <| Wa rfl rfl <| Z7 <| Z5 <| Z04 (fun E w22 => ∃ (h21 : Hp), print_Expr_j1 k x1 = some r ∧ E = [(1, pt b7 0)] ∧ Stp [] w0 h0 w22 h21 ∧ Hle h0 h21 ∧ OB w22 h21 b7 32 [vi x1.op, vi x1.kind, vi x1.n, .string x1.s, .string x1.f, v4]) ?_ ?_
 ·rintro E w22 ⟨h21, HF, rfl, S24, le23, ob25⟩
  refine Za <| Z0 <| Wv rfl (Z0w (cs := [vi x1.op, vi x1.kind, vi x1.n, .string x1.s, .string x1.f, v4]) rfl Z1u Zu (OB.cells ob25 0 rfl)) ?_
  obtain ⟨r26, hr27, HF⟩ := Z6 HF
  refine Wc rfl (Zi (vs := [.agg #[vi x1.op, vi x1.kind, vi x1.n, .string x1.s, .string x1.f, v4]]) rfl Z9f) (Z6o _ hr27 S24.sub (rp_Ex.2 ⟨_, rfl, (rs5.mono ((s9.le).trans le23))⟩)) ?_
  rintro _ w29 ⟨h30, s31, rfl⟩
  have S32 := S24.trans0 s31
  refine Wa rfl rfl <| Wa rfl rfl <| Z7 <| Z5 <| Z09 <| Z94 rfl rfl rfl ?_
  obtain rfl := Option.some.inj HF
  exact ⟨_, rfl, h30, S32, _, _, rfl, rfl, rfl⟩
 intro J33
 refine Za <| Z0 <| Wv rfl (Z0w (cs := [vi x1.op, vi x1.kind, vi x1.n, .string x1.s, .string x1.f, v4]) rfl Z1u Zu (OB.cells ob10 0 rfl)) ?_
 obtain ⟨r13, hr14, HF⟩ := Z6 HF
 refine Wc rfl (Zi (vs := [.agg #[vi x1.op, vi x1.kind, vi x1.n, .string x1.s, .string x1.f, v4]]) rfl t_ent_26) (ok_ast_IsExpr _ hr14 S12.sub (rp_Ex.2 ⟨_, rfl, (rs5.mono (s9.le))⟩)) ?_
 rintro _ w16 ⟨h17, s18, rfl⟩
 have S19 := S12.trans0 s18
 refine Wv rfl (Z4o rfl) <| Z7 <| Z5 <| Z12 HF rfl (fun HF => ?_) (fun HF => ?_)
 ·refine Za <| Z0 <| Wa rfl rfl <| Wa rfl rfl <| Z7 <| Z5 <| Z09 <| Zp <| Z94 rfl rfl rfl ?_
  obtain rfl := Option.some.inj HF
  exact ⟨_, rfl, h17, S19, _, _, rfl, rfl, rfl⟩
 refine Zm ?_
 have ob34 := (ob10.step0 s18)
 refine Z06 [1] _ rfl ?_
 exact J33 ⟨h17, HF, rfl, S19, s18.le, ob34⟩
theorem ok_print_Expr (k : Nat) : C_print_Expr (F_print_Expr k) := s_print_Expr k

def C_law03_awake (φ : Option Bool) : Prop := ∀ ⦃r : Bool⦄, φ  = some r → ∀ ⦃w0 : World⦄ ⦃h0 : Hp⦄, Sub h0 w0 →
  Calls Tryz.prog 7 #[] w0 fun e w1 => ∃ v, e = .returned v ∧ ∃ h1, Stp [] w0 h0 w1 h1 ∧ v = .bool r
theorem s_law03_awake (k : Nat) : C_law03_awake (Z8b k) := by
 intro  r HF w0 h0  hs0 
 have S0 : Stp [] w0 h0 w0 h0 := Stp.refl hs0 _
 refine Z66 (n := 54) Tryz.func7 rfl Tryz.ntmps7 rfl [] rfl <| Za <| Z0 <| Wa rfl rfl <| Z7 <| Z5 <| Za <| Z0 <| Wv rfl (Z3o (vs := [(0, vi 1), (1, vi 3), (2, vi 500)]) (cs := [vi 1, vi 3, vi 500, .string Z2c, .string Z2c, .slice none 0 0]) rfl t_places_32 Zcd rfl) <| Za3 (zs := [vi 0, vi 0, vi 0, .string Z2c, .string Z2c, .slice none 0 0]) rfl rfl Zcd rfl S0.sub (fun w1 b2 hb3 s4 ob5 => ?_)
 have g6 : w0.heap.size ≤ b2 := by rw [hb3]; exact S0.size
 have S7 := S0.trans0 s4
 refine Z5i (vs := [vi 1, vi 3, vi 500, .string Z2c, .string Z2c, .slice none 0 0]) rfl rfl rfl rfl Zu (Z0d rfl (Z0d rfl (Z0d rfl (Z0d rfl (Z0d rfl (Z0d rfl Z76)))))) ob5 S7.sub (by simp) (ds := [vi 1, vi 3, vi 500, .string Z2c, .string Z2c, .slice none 0 0]) rfl (fun w8 s9 ob10 => ?_)
 have S11 := S7.trans1 s9 (.inr g6)
 refine Z7 <| Z5 <| Za <| Z0 <| Wv rfl (Z0w (cs := [vi 1, vi 3, vi 500, .string Z2c, .string Z2c, .slice none 0 0]) rfl Z1u Zu (OB.cells ob10 0 rfl)) <| Wv rfl (Z3o (vs := [(0, vi 2), (3, .string b'86)]) (cs := [vi 2, vi 0, vi 0, .string b'86, .string Z2c, .slice none 0 0]) rfl t_places_32 Zcd rfl) <| Z3d (us := [.agg #[vi 1, vi 3, vi 500, .string Z2c, .string Z2c, .slice none 0 0], .agg #[vi 2, vi 0, vi 0, .string b'86, .string Z2c, .slice none 0 0]]) (cs := [vi 1, vi 3, vi 500, .string Z2c, .string Z2c, .slice none 0 0, vi 2, vi 0, vi 0, .string b'86, .string Z2c, .slice none 0 0]) rfl rfl rfl Zx Zu Zcd rfl (Z0i rfl (Z0i rfl cl_nil)) rfl rfl rfl S11.sub (fun w12 h13 b14 hb15 s16 hk17 hc18 => ?_)
 have S19 := S11.trans0 s16
 have rs20 : RS h13 (sl b14 0 2 2) ([(Ex.mk 1 3 500 Z2c Z2c []), (Ex.mk 2 0 0 b'86 Z2c [])] : List Ex) := RS.litL _ [[vi 1, vi 3, vi 500, .string Z2c, .string Z2c, .slice none 0 0], [vi 2, vi 0, vi 0, .string b'86, .string Z2c, .slice none 0 0]] rfl rfl hc18 ⟨(rp_Ex.2 ⟨_, rfl, (RS.nil _)⟩), (rp_Ex.2 ⟨_, rfl, (RS.nil _)⟩), trivial⟩
 have ow21 := Own.lit (base := w0.heap.size) (sz := 6) (m := 2) hk17 hc18 (by rw [hb15]; exact S11.size) rfl (by decide)
 refine Wv rfl (Z3o (vs := [(0, vi 17), (5, sl b14 0 2 2)]) (cs := [vi 17, vi 0, vi 0, .string Z2c, .string Z2c, sl b14 0 2 2]) rfl t_places_32 Zcd rfl) ?_
 have ob29 := (ob10.step0 s16)
 refine Z3d (us := [.agg #[vi 17, vi 0, vi 0, .string Z2c, .string Z2c, sl b14 0 2 2]]) (cs := [vi 17, vi 0, vi 0, .string Z2c, .string Z2c, sl b14 0 2 2]) rfl rfl rfl Zx Zu Zcd rfl (Z0i rfl cl_nil) rfl rfl rfl S19.sub (fun w22 h23 b24 hb25 s26 hk27 hc28 => ?_)
 have S30 := S19.trans0 s26
 have rs31 : RS h23 (sl b24 0 1 1) ([(Ex.mk 17 0 0 Z2c Z2c [(Ex.mk 1 3 500 Z2c Z2c []), (Ex.mk 2 0 0 b'86 Z2c [])])] : List Ex) := RS.litL _ [[vi 17, vi 0, vi 0, .string Z2c, .string Z2c, sl b14 0 2 2]] rfl rfl hc28 ⟨(rp_Ex.2 ⟨_, rfl, (rs20.mono (s26.le))⟩), trivial⟩
 have ow32 := Own.lit (base := w0.heap.size) (sz := 6) (m := 1) hk27 hc28 (by rw [hb25]; exact S19.size) rfl (by decide)
 refine Wv rfl (Z3o (vs := [(0, vi 6), (5, sl b24 0 1 1)]) (cs := [vi 6, vi 0, vi 0, .string Z2c, .string Z2c, sl b24 0 1 1]) rfl t_places_32 Zcd rfl) ?_
 obtain ⟨r33, hr34, HF⟩ := Z6 HF
 refine Wc rfl (Zi (vs := [.agg #[vi 6, vi 0, vi 0, .string Z2c, .string Z2c, sl b24 0 1 1]]) rfl t_ent_14) (ok_print_Expr _ hr34 S30.sub (rp_Ex.2 ⟨_, rfl, rs31⟩)) ?_
 have ob39 := (ob29.step0 s26)
 rintro _ w36 ⟨h37, s38, _, _, rfl, rfl, rfl⟩
 have S40 := S30.trans0 s38
 refine Wm rfl rfl <| Wv rfl (Z1a rfl rfl) <| Wv rfl (Z1a rfl rfl) <| Wa rfl rfl <| Wa rfl rfl <| Z7 <| Z5 <| Za <| Z0 ?_
 obtain ⟨r41, hr42, HF⟩ := Z6 HF
 refine Wc rfl (Zi (vs := [vi 2, vi (-5)]) rfl t_ent_17) (ok_print_Const _ hr42 S40.sub) ?_
 have ob47 := (ob39.step0 s38)
 rintro _ w44 ⟨h45, s46, _, _, rfl, rfl, rfl⟩
 have S48 := S40.trans0 s46
 refine Wm rfl rfl <| Wv rfl (Z1a rfl rfl) <| Wv rfl (Z1a rfl rfl) <| Wa rfl rfl <| Wa rfl rfl <| Z7 <| Z5 <| Za <| Z0 <| Wv rfl (Z3o (vs := [(0, vi 8)]) (cs := [vi 8, .string Z2c, .slice none 0 0, .slice none 0 0, .slice none 0 0, vi 0, .slice none 0 0, .slice none 0 0, .slice none 0 0, .bool false]) rfl t_places_44 t_zero_44 rfl) <| Wv rfl (Z3o (vs := [(0, vi 9)]) (cs := [vi 9, .string Z2c, .slice none 0 0, .slice none 0 0, .slice none 0 0, vi 0, .slice none 0 0, .slice none 0 0, .slice none 0 0, .bool false]) rfl t_places_44 t_zero_44 rfl) ?_
 have ob56 := (ob47.step0 s46)
 refine Z3d (us := [.agg #[vi 8, .string Z2c, .slice none 0 0, .slice none 0 0, .slice none 0 0, vi 0, .slice none 0 0, .slice none 0 0, .slice none 0 0, .bool false], .agg #[vi 9, .string Z2c, .slice none 0 0, .slice none 0 0, .slice none 0 0, vi 0, .slice none 0 0, .slice none 0 0, .slice none 0 0, .bool false]]) (cs := [vi 8, .string Z2c, .slice none 0 0, .slice none 0 0, .slice none 0 0, vi 0, .slice none 0 0, .slice none 0 0, .slice none 0 0, .bool false, vi 9, .string Z2c, .slice none 0 0, .slice none 0 0, .slice none 0 0, vi 0, .slice none 0 0, .slice none 0 0, .slice none 0 0, .bool false]) rfl rfl rfl Z1e Z2g t_zero_44 rfl (Z0i rfl (Z0i rfl cl_nil)) rfl rfl rfl S48.sub (fun w49 h50 b51 hb52 s53 hk54 hc55 => ?_)
 have S57 := S48.trans0 s53
 have rs58 : RS h50 (sl b51 0 2 2) ([(St.mk 8 Z2c [] [] [] 0 [] [] [] false), (St.mk 9 Z2c [] [] [] 0 [] [] [] false)] : List St) := RS.litL _ [[vi 8, .string Z2c, .slice none 0 0, .slice none 0 0, .slice none 0 0, vi 0, .slice none 0 0, .slice none 0 0, .slice none 0 0, .bool false], [vi 9, .string Z2c, .slice none 0 0, .slice none 0 0, .slice none 0 0, vi 0, .slice none 0 0, .slice none 0 0, .slice none 0 0, .bool false]] rfl rfl hc55 ⟨(rp_St.2 ⟨_, _, _, _, _, _, rfl, (RS.nil _), (RS.nil _), (RS.nil _), (RS.nil _), (RS.nil _), (RS.nil _)⟩), (rp_St.2 ⟨_, _, _, _, _, _, rfl, (RS.nil _), (RS.nil _), (RS.nil _), (RS.nil _), (RS.nil _), (RS.nil _)⟩), trivial⟩
 have ow59 := Own.lit (base := w0.heap.size) (sz := 10) (m := 2) hk54 hc55 (by rw [hb52]; exact S48.size) rfl (by decide)
 obtain ⟨r60, hr61, HF⟩ := Z6 HF
 refine Wc rfl (Zi (vs := [sl b51 0 2 2]) rfl t_ent_9) (ok_print_Short _ hr61 S57.sub rs58) ?_
 have ob66 := (ob56.step0 s53)
 rintro _ w63 ⟨h64, s65, _, _, rfl, rfl, rfl⟩
 have S67 := S57.trans0 s65
 refine Wm rfl rfl <| Wv rfl (Z1a rfl rfl) <| Wv rfl (Z1a rfl rfl) <| Wa rfl rfl <| Wa rfl rfl <| Z7 <| Z5 <| Za <| Z0 <| Wm rfl rfl <| Wv rfl (Z0y rfl rfl) <| Wm rfl rfl <| Z2m 32 HF rfl (fun HF => ?_) (fun HF => ?_)
 ·refine Wm rfl rfl <| Wv rfl (Z0g rfl rfl) <| Wv rfl (Zh rfl rfl) <| Wm rfl rfl <| Z2m 36 HF rfl (fun HF => ?_) (fun HF => ?_)
  ·refine Wm rfl rfl <| Wv rfl (Z0y rfl rfl) <| Wv rfl (Zh rfl rfl) <| Wm rfl rfl <| Z2m 40 HF rfl (fun HF => ?_) (fun HF => ?_)
   ·refine Wm rfl rfl <| Wv rfl (Z0g rfl rfl) <| Wv rfl (Zh rfl rfl) <| Wm rfl rfl <| Z2m 44 HF rfl (fun HF => ?_) (fun HF => ?_)
    ·refine Wm rfl rfl <| Wv rfl (Z0y rfl rfl) <| Wv rfl (Zh rfl rfl) <| Wm rfl rfl <| Z2m 48 HF rfl (fun HF => ?_) (fun HF => ?_)
     ·refine Wm rfl rfl <| Wv rfl (Z0g rfl rfl) <| Wv rfl (Zh rfl rfl) <| Wm rfl rfl <| Z2m 52 HF rfl (fun HF => ?_) (fun HF => ?_)
      ·refine Wv rfl (Zh rfl rfl) <| Wa rfl rfl <| Z7 <| Z5 <| Z09 <| Zt rfl rfl ?_
       obtain rfl := Option.some.inj HF
       exact ⟨_, rfl, h64, S67, rfl⟩
      refine Wv rfl (Zf rfl rfl) <| Wa rfl rfl <| Z7 <| Z5 <| Z09 <| Zt rfl rfl ?_
      obtain rfl := Option.some.inj HF
      exact ⟨_, rfl, h64, S67, rfl⟩
     refine Wp rfl <| Wp rfl <| Wv rfl (Zf rfl rfl) <| Wm rfl rfl <| Wv rfl (Zf rfl rfl) <| Wa rfl rfl <| Z7 <| Z5 <| Z09 <| Zt rfl rfl ?_
     obtain rfl := Option.some.inj HF
     exact ⟨_, rfl, h64, S67, rfl⟩
    refine Wp rfl <| Wp rfl <| Wv rfl (Zf rfl rfl) <| Wm rfl rfl <| Wp rfl <| Wp rfl <| Wv rfl (Zf rfl rfl) <| Wm rfl rfl <| Wv rfl (Zf rfl rfl) <| Wa rfl rfl <| Z7 <| Z5 <| Z09 <| Zt rfl rfl ?_
    obtain rfl := Option.some.inj HF
    exact ⟨_, rfl, h64, S67, rfl⟩
   refine Wp rfl <| Wp rfl <| Wv rfl (Zf rfl rfl) <| Wm rfl rfl <| Wp rfl <| Wp rfl <| Wv rfl (Zf rfl rfl) <| Wm rfl rfl <| Wp rfl <| Wp rfl <| Wv rfl (Zf rfl rfl) <| Wm rfl rfl <| Wv rfl (Zf rfl rfl) <| Wa rfl rfl <| Z7 <| Z5 <| Z09 <| Zt rfl rfl ?_
   obtain rfl := Option.some.inj HF
   exact ⟨_, rfl, h64, S67, rfl⟩
  refine Wp rfl <| Wp rfl <| Wv rfl (Zf rfl rfl) <| Wm rfl rfl <| Wp rfl <| Wp rfl <| Wv rfl (Zf rfl rfl) <| Wm rfl rfl <| Wp rfl <| Wp rfl <| Wv rfl (Zf rfl rfl) <| Wm rfl rfl <| Wp rfl <| Wp rfl <| Wv rfl (Zf rfl rfl) <| Wm rfl rfl <| Wv rfl (Zf rfl rfl) <| Wa rfl rfl <| Z7 <| Z5 <| Z09 <| Zt rfl rfl ?_
  obtain rfl := Option.some.inj HF
  exact ⟨_, rfl, h64, S67, rfl⟩
 refine Wp rfl <| Wp rfl <| Wv rfl (Zf rfl rfl) <| Wm rfl rfl <| Wp rfl <| Wp rfl <| Wv rfl (Zf rfl rfl) <| Wm rfl rfl <| Wp rfl <| Wp rfl <| Wv rfl (Zf rfl rfl) <| Wm rfl rfl <| Wp rfl <| Wp rfl <| Wv rfl (Zf rfl rfl) <| Wm rfl rfl <| Wp rfl <| Wp rfl <| Wv rfl (Zf rfl rfl) <| Wm rfl rfl <| Wv rfl (Zf rfl rfl) <| Wa rfl rfl <| Z7 <| Z5 <| Z09 <| Zt rfl rfl ?_
 obtain rfl := Option.some.inj HF
 exact ⟨_, rfl, h64, S67, rfl⟩
theorem Zev (k : Nat) : C_law03_awake (Z8b k) := s_law03_awake k

def Zdc (φ : (List Ex) → Int → Option Int) : Prop := ∀ ⦃xs1 : List Ex⦄ ⦃x4 : Int⦄ ⦃r : Int⦄, φ xs1 x4 = some r → ∀ ⦃w0 : World⦄ ⦃h0 : Hp⦄ ⦃v2 : Value⦄, Sub h0 w0 → RS h0 v2 xs1 →
  Calls Tryz.prog 13 #[v2, .int .i64 x4] w0 fun e w1 => ∃ v, e = .returned v ∧ ∃ h1, Stp [] w0 h0 w1 h1 ∧ v = .int .i64 r
theorem s_law03_exprs (k : Nat) (IH : ∀ j, j ≤ k → Zdc (Z1b j).law03_exprs) : Zdc (Z7z k (Z1b k)) := by
 intro xs1 x4 r HF w0 h0 v2 hs0 rs3
 have S0 : Stp [] w0 h0 w0 h0 := Stp.refl hs0 _
 refine Z66 (n := 32) Tryz.func13 rfl Tryz.ntmps13 rfl [(0, v2), (1, vi x4)] rfl <| Za <| Z0 <| Wa rfl rfl <| Z7 <| Z5 <| Z04 (fun E w7 => ∃ (h6 : Hp), Zel k (Z1b k) xs1 x4 = some r ∧ E = [(0, v2), (1, vi x4)] ∧ Stp [] w0 h0 w7 h6 ∧ Hle h0 h6) ?_ ?_
 ·rintro E w7 ⟨h6, HF, rfl, S9, le8⟩
  refine Za <| Z0 <| Wm rfl rfl ?_
  obtain ⟨A10, c11, rfl, rs12⟩ := RS.form (rs3.mono (le8))
  refine Wv rfl (Z0v rfl Zx) <| Wa rfl rfl <| Z7 <| Z5 <| Za <| Za <| Z0 <| Wa rfl rfl <| Z7 <| Z5 <| Z0c <| Z4j <| Z8e [0, 1, 5, 6] [(0, .slice A10 (xs1).length c11), (1, vi x4), (5, vi (xs1.length : Int)), (6, vi 0)] rfl <| Z4m (K := k) (fun j E w14 => ∃ (h13 : Hp) (x17 : Int) (x18 : Int), (Z1b j).law03_exprs_l2 xs1 x4 x17 x18 = some r ∧ E = [(0, .slice A10 (xs1).length c11), (1, vi x4), (5, vi x17), (6, vi x18)] ∧ Stp [] w0 h0 w14 h13 ∧ Hle h6 h13) ?_ ?_ (j := k) (Nat.le_refl _) ?_
  ·rintro E w14 ⟨_, _, _, HF, _⟩; cases HF
  ·rintro j19 hj21 IHL20 E w14 ⟨h13, x17, x18, HF, rfl, S16, le15⟩
   refine Z04 (fun E w31 => ∃ (h30 : Hp), Zes j19 (Z1b j19) xs1 x4 x17 x18 = some r ∧ E = [(0, .slice A10 (xs1).length c11), (1, vi x4), (5, vi x17), (6, vi x18)] ∧ Stp [] w0 h0 w31 h30 ∧ Hle h13 h30) ?_ ?_
   ·rintro E w31 ⟨h30, HF, rfl, S33, le32⟩
    refine Za <| Z0c <| Z0 <| Wm rfl rfl <| Wm rfl rfl <| Wm rfl rfl ?_
    obtain ⟨e34, he35, HF⟩ := Z6 HF
    obtain ⟨b36, o37, rfl, h39, h40, ra38⟩ := RS.atO (rs12.mono ((le15).trans le32)) he35
    obtain ⟨cs41, r42, hc43⟩ := ra38
    refine Wv rfl (Zk rfl rfl Zx Zu h39 h40) <| Wv rfl (Z2 rfl Z0z) ?_
    obtain ⟨v44, rfl, rs45⟩ := rp_Ex.1 r42
    refine Wv rfl (Z8 rfl Z0h (S33.sub.at_ _ _ _ (hc43 5 _ rfl))) <| Wm rfl rfl <| Wv rfl (Z2v rfl rfl) ?_
    obtain ⟨r46, hr47, HF⟩ := Z6 HF
    refine Wc rfl (Zi (vs := [v44, vi (IntKind.i64.wrap (x4 + 1))]) rfl t_ent_13) ((IH _ (Nat.le_trans (Nat.le_of_succ_le hj21) (Nat.le_refl _))) hr47 S33.sub rs45) ?_
    rintro _ w49 ⟨h50, s51, rfl⟩
    have S52 := S33.trans0 s51
    refine Wv rfl (Z2v rfl rfl) <| Wa rfl rfl <| Z7 <| Zv <| Z5 <| Z0 <| Wm rfl rfl <| Wv rfl (Z2v rfl rfl) <| Wa rfl rfl <| Z7 <| Z2x <| Z8e [0, 1, 5, 6] [(0, sl b36 o37 (xs1).length c11), (1, vi x4), (5, vi (IntKind.i64.wrap (x17 + r46))), (6, vi (IntKind.i64.wrap (x18 + 1)))] rfl ?_
    exact IHL20 j19 (Nat.le_refl _) _ _ ⟨h50, IntKind.i64.wrap (x17 + r46), IntKind.i64.wrap (x18 + 1), HF, rfl, S52, (le15).trans ((le32).trans s51.le)⟩
   intro J53
   refine Z04 (fun E w24 => ∃ (h23 : Hp) (x27 : Bool), Z8m j19 (Z1b j19) xs1 x4 x17 x18 x27 = some r ∧ E = [(0, .slice A10 (xs1).length c11), (1, vi x4), (5, vi x17), (6, vi x18), (18, .bool x27)] ∧ Stp [] w0 h0 w24 h23 ∧ Hle h13 h23) ?_ ?_
   ·rintro E w24 ⟨h23, x27, HF, rfl, S26, le25⟩
    refine Z12 HF rfl (fun HF => ?_) (fun HF => ?_)
    ·refine Zm <| Z06 [0, 1, 5, 6] _ rfl ?_
     exact J53 ⟨h23, HF, rfl, S26, le25⟩
    refine Z4b <| Zr <| Zr <| Z0x <| Z5 <| Za <| Z0 <| Wm rfl rfl <| Wa rfl rfl <| Z7 <| Z5 <| Z09 <| Zt rfl rfl ?_
    obtain rfl := Option.some.inj HF
    exact ⟨_, rfl, h23, S26, rfl⟩
   intro J29
   refine Z0 <| Wm rfl rfl <| Wm rfl rfl <| Wv rfl (Z0v rfl Zx) <| Wv rfl (Z6q rfl rfl) <| Wm rfl rfl <| Z2m 15 HF rfl (fun HF => ?_) (fun HF => ?_)
   ·refine Wm rfl rfl <| Wv rfl (Zdo rfl rfl) <| Wv rfl (Zh rfl rfl) <| Z7 <| Z06 [0, 1, 5, 6, 18] _ rfl ?_
    exact J29 ⟨h13, decide ((x17 : Int) ≤ 2000), HF, rfl, S16, Hle.refl _⟩
   refine Wp rfl <| Wp rfl <| Wv rfl (Zf rfl rfl) <| Z7 <| Z06 [0, 1, 5, 6, 18] _ rfl ?_
   exact J29 ⟨h13, false, HF, rfl, S16, Hle.refl _⟩
  exact ⟨h6, (xs1.length : Int), 0, HF, rfl, S9, Hle.refl _⟩
 intro J54
 refine Za <| Z0 <| Wm rfl rfl <| Wv rfl (Zao rfl rfl) <| Z7 <| Z5 <| Z12 HF rfl (fun HF => ?_) (fun HF => ?_)
 ·refine Za <| Z0 <| Wa rfl rfl <| Z7 <| Z5 <| Z09 <| Zp <| Zt rfl rfl ?_
  obtain rfl := Option.some.inj HF
  exact ⟨_, rfl, h0, S0, rfl⟩
 refine Zm <| Z06 [0, 1] _ rfl ?_
 exact J54 ⟨h0, HF, rfl, S0, Hle.refl _⟩
theorem all_law03_exprs : ∀ k j, j ≤ k → Zdc (Z1b j).law03_exprs := by
  intro k
  induction k with
  | zero =>
    intro j hj
    obtain rfl : j = 0 := by omega
    exact (fun _ _ _ => by intro h; cases h)
  | succ k ih =>
    intro j hj
    by_cases h : j ≤ k
    · exact ih j h
    · obtain rfl : j = k + 1 := by omega
      exact s_law03_exprs k ih
theorem Zf4 (k : Nat) : Zdc (Z3i k) := (all_law03_exprs k k (Nat.le_refl _))

def Zda (φ : (List St) → Int → Option Int) : Prop := ∀ ⦃xs1 : List St⦄ ⦃x4 : Int⦄ ⦃r : Int⦄, φ xs1 x4 = some r → ∀ ⦃w0 : World⦄ ⦃h0 : Hp⦄ ⦃v2 : Value⦄, Sub h0 w0 → RS h0 v2 xs1 →
  Calls Tryz.prog 6 #[v2, .int .i64 x4] w0 fun e w1 => ∃ v, e = .returned v ∧ ∃ h1, Stp [] w0 h0 w1 h1 ∧ v = .int .i64 r
theorem s_law03_small (k : Nat) (IH : ∀ j, j ≤ k → Zda (Z0k j).law03_small) : Zda (Z83 k (Z0k k)) := by
 intro xs1 x4 r HF w0 h0 v2 hs0 rs3
 have S0 : Stp [] w0 h0 w0 h0 := Stp.refl hs0 _
 refine Z66 (n := 110) Tryz.func6 rfl Tryz.ntmps6 rfl [(0, v2), (1, vi x4)] rfl <| Za <| Z0 <| Wa rfl rfl <| Z7 <| Z5 <| Z04 (fun E w7 => ∃ (h6 : Hp), Zef k (Z0k k) xs1 x4 = some r ∧ E = [(0, v2), (1, vi x4)] ∧ Stp [] w0 h0 w7 h6 ∧ Hle h0 h6) ?_ ?_
 ·rintro E w7 ⟨h6, HF, rfl, S9, le8⟩
  refine Za <| Z0 <| Wm rfl rfl ?_
  obtain ⟨A10, c11, rfl, rs12⟩ := RS.form (rs3.mono (le8))
  refine Wv rfl (Z0v rfl Z1e) <| Wa rfl rfl <| Z7 <| Z5 <| Za <| Za <| Z0 <| Wa rfl rfl <| Z7 <| Z5 <| Z0c <| Z4j <| Z8e [0, 1, 5, 6] [(0, .slice A10 (xs1).length c11), (1, vi x4), (5, vi (xs1.length : Int)), (6, vi 0)] rfl <| Z4m (K := k) (fun j E w14 => ∃ (h13 : Hp) (x17 : Int) (x18 : Int), (Z0k j).law03_small_l2 xs1 x4 x17 x18 = some r ∧ E = [(0, .slice A10 (xs1).length c11), (1, vi x4), (5, vi x17), (6, vi x18)] ∧ Stp [] w0 h0 w14 h13 ∧ Hle h6 h13) ?_ ?_ (j := k) (Nat.le_refl _) ?_
  ·rintro E w14 ⟨_, _, _, HF, _⟩; cases HF
  ·rintro j19 hj21 IHL20 E w14 ⟨h13, x17, x18, HF, rfl, S16, le15⟩
   refine Z04 (fun E w31 => ∃ (h30 : Hp), Zeu j19 (Z0k j19) xs1 x4 x17 x18 = some r ∧ E = [(0, .slice A10 (xs1).length c11), (1, vi x4), (5, vi x17), (6, vi x18)] ∧ Stp [] w0 h0 w31 h30 ∧ Hle h13 h30) ?_ ?_
   ·rintro E w31 ⟨h30, HF, rfl, S33, le32⟩
    refine Za <| Z0c <| Za ?_
    obtain ⟨e34, he35, HF⟩ := Z6 HF
    obtain ⟨b36, o37, rfl, h39, h40, ra38⟩ := RS.atO (rs12.mono ((le15).trans le32)) he35
    obtain ⟨cs41, r42, hc43⟩ := ra38
    obtain ⟨v44, v46, v48, v50, v52, v54, rfl, rs45, rs47, rs49, rs51, rs53, rs55⟩ := rp_St.1 r42
    obtain ⟨r56, hr57, HF⟩ := Z6 HF
    obtain ⟨e58, he59, HF⟩ := Z6 HF
    obtain ⟨b60, o61, hA, h63, h64, ra62⟩ := RS.atO (rs12.mono ((le15).trans le32)) he59
    obtain ⟨rfl, rfl⟩ := Z5m hA
    obtain ⟨cs65, r66, hc67⟩ := ra62
    obtain ⟨v68, v70, v72, v74, v76, v78, rfl, rs69, rs71, rs73, rs75, rs77, rs79⟩ := rp_St.1 r66
    obtain ⟨r80, hr81, HF⟩ := Z6 HF
    obtain ⟨e82, he83, HF⟩ := Z6 HF
    obtain ⟨b84, o85, hA, h87, h88, ra86⟩ := RS.atO (rs12.mono ((le15).trans le32)) he83
    obtain ⟨rfl, rfl⟩ := Z5m hA
    obtain ⟨cs89, r90, hc91⟩ := ra86
    obtain ⟨v92, v94, v96, v98, v100, v102, rfl, rs93, rs95, rs97, rs99, rs101, rs103⟩ := rp_St.1 r90
    obtain ⟨r104, hr105, HF⟩ := Z6 HF
    obtain ⟨e106, he107, HF⟩ := Z6 HF
    obtain ⟨b108, o109, hA, h111, h112, ra110⟩ := RS.atO (rs12.mono ((le15).trans le32)) he107
    obtain ⟨rfl, rfl⟩ := Z5m hA
    obtain ⟨cs113, r114, hc115⟩ := ra110
    obtain ⟨v116, v118, v120, v122, v124, v126, rfl, rs117, rs119, rs121, rs123, rs125, rs127⟩ := rp_St.1 r114
    obtain ⟨r128, hr129, HF⟩ := Z6 HF
    refine Z2z (m := 34) [(0, sl b36 o37 (xs1).length c11), (1, vi x4), (5, vi x17), (6, vi x18)] [0, 1, 5, 6] rfl (fun i v w h => match i with | 0 => v = vi x17 | 1 => v = sl b36 o37 (xs1).length c11 | 2 => v = vi x18 | 3 => v = pt b36 (o37 + Int.toNat x18 * 10) | 4 => v = pt b36 (o37 + Int.toNat x18 * 10 + 2) | 5 => v = v44 | 6 => v = vi x4 | 7 => v = vi r56 | 8 => v = vi (IntKind.i64.wrap (x17 + r56)) | 9 => v = sl b36 o37 (xs1).length c11 | 10 => v = vi x18 | 11 => v = pt b36 (o37 + Int.toNat x18 * 10) | 12 => v = pt b36 (o37 + Int.toNat x18 * 10 + 4) | 13 => v = v72 | 14 => v = vi x4 | 15 => v = vi r80 | 16 => v = vi (IntKind.i64.wrap ((IntKind.i64.wrap (x17 + r56)) + r80)) | 17 => v = sl b36 o37 (xs1).length c11 | 18 => v = vi x18 | 19 => v = pt b36 (o37 + Int.toNat x18 * 10) | 20 => v = pt b36 (o37 + Int.toNat x18 * 10 + 6) | 21 => v = v98 | 22 => v = vi x4 | 23 => v = vi (IntKind.i64.wrap (x4 + 1)) | 24 => v = vi r104 | 25 => v = vi (IntKind.i64.wrap ((IntKind.i64.wrap ((IntKind.i64.wrap (x17 + r56)) + r80)) + r104)) | 26 => v = sl b36 o37 (xs1).length c11 | 27 => v = vi x18 | 28 => v = pt b36 (o37 + Int.toNat x18 * 10) | 29 => v = pt b36 (o37 + Int.toNat x18 * 10 + 8) | 30 => v = v126 | 31 => v = vi x4 | 32 => v = vi (IntKind.i64.wrap (x4 + 1)) | 33 => v = vi r128 | _ => True) Z4c S33.sub rfl rfl rfl rfl rfl ?_ ?_ ?_
    ·intro i v w h w2 h2 hΦ hst
     match i, hΦ with
     | 0, hΦ | 1, hΦ | 2, hΦ | 3, hΦ | 4, hΦ | 5, hΦ | 6, hΦ | 7, hΦ | 8, hΦ | 9, hΦ | 10, hΦ | 11, hΦ | 12, hΦ | 13, hΦ | 14, hΦ | 15, hΦ | 16, hΦ | 17, hΦ | 18, hΦ | 19, hΦ | 20, hΦ | 21, hΦ | 22, hΦ | 23, hΦ | 24, hΦ | 25, hΦ | 26, hΦ | 27, hΦ | 28, hΦ | 29, hΦ | 30, hΦ | 31, hΦ | 32, hΦ | 33, hΦ => exact hΦ
     | i + 34, _ => exact trivial
    ·refine ⟨?_, ?_, ?_, ?_, ?_, ?_, ?_, ?_, ?_, ?_, ?_, ?_, ?_, ?_, ?_, ?_, ?_, ?_, ?_, ?_, ?_, ?_, ?_, ?_, ?_, ?_, ?_, ?_, ?_, ?_, ?_, ?_, ?_, ?_, trivial⟩
     ·intro a w130 h131 s132 hat hF
      exact Z4 hat rfl (Z0j rfl) s132.sub (by exact rfl)
     ·intro a w130 h131 s132 hat hF
      exact Z4 hat rfl (Z0j rfl) s132.sub (by exact rfl)
     ·intro a w130 h131 s132 hat hF
      exact Z4 hat rfl (Z0j rfl) s132.sub (by exact rfl)
     ·intro a w130 h131 s132 hat hF
      exact Z4 (Z1 (Z1 hat (hF 1 23 rfl rfl)) (hF 2 24 rfl rfl)) rfl (Zk rfl rfl Z1e Z2g h39 h40) s132.sub (by exact rfl)
     ·intro a w130 h131 s132 hat hF
      exact Z4 (Z1 hat (hF 3 25 rfl rfl)) rfl (Z2 rfl Z5h) s132.sub (by exact rfl)
     ·intro a w130 h131 s132 hat hF
      exact Z4 (Z1 hat (hF 4 26 rfl rfl)) rfl (Z8 rfl Z0h (s132.sub.at_ _ _ _ ((fun i v hv => (s132.le).1 _ _ _ (hc43 i v hv)) 2 _ rfl))) s132.sub (by exact rfl)
     ·intro a w130 h131 s132 hat hF
      exact Z4 hat rfl (Z0j rfl) s132.sub (by exact rfl)
     ·intro a w130 h131 s132 hat hF
      refine Z0n (Z1 (Z1 hat (hF 5 27 rfl rfl)) (hF 6 28 rfl rfl)) rfl (Zi (vs := [v44, vi x4]) rfl t_ent_13) (Zf4 _ hr57 s132.sub (rs45.mono (s132.le))) ?_
      rintro _ w133 ⟨h134, s135, rfl⟩
      exact ⟨_, h134, rfl, s135, (by exact rfl)⟩
     ·intro a w130 h131 s132 hat hF
      exact Z4 (Z1 (Z1 hat (hF 0 22 rfl rfl)) (hF 7 29 rfl rfl)) rfl (Z2v rfl rfl) s132.sub (by exact rfl)
     ·intro a w130 h131 s132 hat hF
      exact Z4 hat rfl (Z0j rfl) s132.sub (by exact rfl)
     ·intro a w130 h131 s132 hat hF
      exact Z4 hat rfl (Z0j rfl) s132.sub (by exact rfl)
     ·intro a w130 h131 s132 hat hF
      exact Z4 (Z1 (Z1 hat (hF 9 31 rfl rfl)) (hF 10 32 rfl rfl)) rfl (Zk rfl rfl Z1e Z2g h63 h64) s132.sub (by exact rfl)
     ·intro a w130 h131 s132 hat hF
      exact Z4 (Z1 hat (hF 11 33 rfl rfl)) rfl (Z2 rfl Z1f) s132.sub (by exact rfl)
     ·intro a w130 h131 s132 hat hF
      exact Z4 (Z1 hat (hF 12 34 rfl rfl)) rfl (Z8 rfl Z0h (s132.sub.at_ _ _ _ ((fun i v hv => (s132.le).1 _ _ _ (hc67 i v hv)) 4 _ rfl))) s132.sub (by exact rfl)
     ·intro a w130 h131 s132 hat hF
      exact Z4 hat rfl (Z0j rfl) s132.sub (by exact rfl)
     ·intro a w130 h131 s132 hat hF
      refine Z0n (Z1 (Z1 hat (hF 13 35 rfl rfl)) (hF 14 36 rfl rfl)) rfl (Zi (vs := [v72, vi x4]) rfl t_ent_13) (Zf4 _ hr81 s132.sub (rs73.mono (s132.le))) ?_
      rintro _ w136 ⟨h137, s138, rfl⟩
      exact ⟨_, h137, rfl, s138, (by exact rfl)⟩
     ·intro a w130 h131 s132 hat hF
      exact Z4 (Z1 (Z1 hat (hF 8 30 rfl rfl)) (hF 15 37 rfl rfl)) rfl (Z2v rfl rfl) s132.sub (by exact rfl)
     ·intro a w130 h131 s132 hat hF
      exact Z4 hat rfl (Z0j rfl) s132.sub (by exact rfl)
     ·intro a w130 h131 s132 hat hF
      exact Z4 hat rfl (Z0j rfl) s132.sub (by exact rfl)
     ·intro a w130 h131 s132 hat hF
      exact Z4 (Z1 (Z1 hat (hF 17 39 rfl rfl)) (hF 18 40 rfl rfl)) rfl (Zk rfl rfl Z1e Z2g h87 h88) s132.sub (by exact rfl)
     ·intro a w130 h131 s132 hat hF
      exact Z4 (Z1 hat (hF 19 41 rfl rfl)) rfl (Z2 rfl Z48) s132.sub (by exact rfl)
     ·intro a w130 h131 s132 hat hF
      exact Z4 (Z1 hat (hF 20 42 rfl rfl)) rfl (Z8 rfl Z2r (s132.sub.at_ _ _ _ ((fun i v hv => (s132.le).1 _ _ _ (hc91 i v hv)) 6 _ rfl))) s132.sub (by exact rfl)
     ·intro a w130 h131 s132 hat hF
      exact Z4 hat rfl (Z0j rfl) s132.sub (by exact rfl)
     ·intro a w130 h131 s132 hat hF
      exact Z4 (Z1 hat (hF 22 44 rfl rfl)) rfl (Z2v rfl rfl) s132.sub (by exact rfl)
     ·intro a w130 h131 s132 hat hF
      refine Z0n (Z1 (Z1 hat (hF 21 43 rfl rfl)) (hF 23 45 rfl rfl)) rfl (Zi (vs := [v98, vi (IntKind.i64.wrap (x4 + 1))]) rfl t_ent_6) ((IH _ (Nat.le_trans (Nat.le_of_succ_le hj21) (Nat.le_refl _))) hr105 s132.sub (rs99.mono (s132.le))) ?_
      rintro _ w139 ⟨h140, s141, rfl⟩
      exact ⟨_, h140, rfl, s141, (by exact rfl)⟩
     ·intro a w130 h131 s132 hat hF
      exact Z4 (Z1 (Z1 hat (hF 16 38 rfl rfl)) (hF 24 46 rfl rfl)) rfl (Z2v rfl rfl) s132.sub (by exact rfl)
     ·intro a w130 h131 s132 hat hF
      exact Z4 hat rfl (Z0j rfl) s132.sub (by exact rfl)
     ·intro a w130 h131 s132 hat hF
      exact Z4 hat rfl (Z0j rfl) s132.sub (by exact rfl)
     ·intro a w130 h131 s132 hat hF
      exact Z4 (Z1 (Z1 hat (hF 26 48 rfl rfl)) (hF 27 49 rfl rfl)) rfl (Zk rfl rfl Z1e Z2g h111 h112) s132.sub (by exact rfl)
     ·intro a w130 h131 s132 hat hF
      exact Z4 (Z1 hat (hF 28 50 rfl rfl)) rfl (Z2 rfl Z3f) s132.sub (by exact rfl)
     ·intro a w130 h131 s132 hat hF
      exact Z4 (Z1 hat (hF 29 51 rfl rfl)) rfl (Z8 rfl Z2r (s132.sub.at_ _ _ _ ((fun i v hv => (s132.le).1 _ _ _ (hc115 i v hv)) 8 _ rfl))) s132.sub (by exact rfl)
     ·intro a w130 h131 s132 hat hF
      exact Z4 hat rfl (Z0j rfl) s132.sub (by exact rfl)
     ·intro a w130 h131 s132 hat hF
      exact Z4 (Z1 hat (hF 31 53 rfl rfl)) rfl (Z2v rfl rfl) s132.sub (by exact rfl)
     intro a w130 h131 s132 hat hF
     refine Z0n (Z1 (Z1 hat (hF 30 52 rfl rfl)) (hF 32 54 rfl rfl)) rfl (Zi (vs := [v126, vi (IntKind.i64.wrap (x4 + 1))]) rfl t_ent_6) ((IH _ (Nat.le_trans (Nat.le_of_succ_le hj21) (Nat.le_refl _))) hr129 s132.sub (rs127.mono (s132.le))) ?_
     rintro _ w142 ⟨h143, s144, rfl⟩
     exact ⟨_, h143, rfl, s144, (by exact rfl)⟩
    intro a w130 h131 s132 hat hF
    obtain hv0 := hF 0 22 (by decide) rfl
    obtain hv1 := hF 1 23 (by decide) rfl
    obtain hv2 := hF 2 24 (by decide) rfl
    obtain hv3 := hF 3 25 (by decide) rfl
    obtain hv4 := hF 4 26 (by decide) rfl
    obtain hv5 := hF 5 27 (by decide) rfl
    obtain hv6 := hF 6 28 (by decide) rfl
    obtain hv7 := hF 7 29 (by decide) rfl
    obtain hv8 := hF 8 30 (by decide) rfl
    obtain hv9 := hF 9 31 (by decide) rfl
    obtain hv10 := hF 10 32 (by decide) rfl
    obtain hv11 := hF 11 33 (by decide) rfl
    obtain hv12 := hF 12 34 (by decide) rfl
    obtain hv13 := hF 13 35 (by decide) rfl
    obtain hv14 := hF 14 36 (by decide) rfl
    obtain hv15 := hF 15 37 (by decide) rfl
    obtain hv16 := hF 16 38 (by decide) rfl
    obtain hv17 := hF 17 39 (by decide) rfl
    obtain hv18 := hF 18 40 (by decide) rfl
    obtain hv19 := hF 19 41 (by decide) rfl
    obtain hv20 := hF 20 42 (by decide) rfl
    obtain hv21 := hF 21 43 (by decide) rfl
    obtain hv22 := hF 22 44 (by decide) rfl
    obtain hv23 := hF 23 45 (by decide) rfl
    obtain hv24 := hF 24 46 (by decide) rfl
    obtain hv25 := hF 25 47 (by decide) rfl
    obtain hv26 := hF 26 48 (by decide) rfl
    obtain hv27 := hF 27 49 (by decide) rfl
    obtain hv28 := hF 28 50 (by decide) rfl
    obtain hv29 := hF 29 51 (by decide) rfl
    obtain hv30 := hF 30 52 (by decide) rfl
    obtain hv31 := hF 31 53 (by decide) rfl
    obtain hv32 := hF 32 54 (by decide) rfl
    obtain hv33 := hF 33 55 (by decide) rfl
    refine Z7u [(55, vi r128), (54, vi (IntKind.i64.wrap (x4 + 1))), (53, vi x4), (52, v126), (51, pt b36 (o37 + Int.toNat x18 * 10 + 8)), (50, pt b36 (o37 + Int.toNat x18 * 10)), (49, vi x18), (48, sl b36 o37 (xs1).length c11), (47, vi (IntKind.i64.wrap ((IntKind.i64.wrap ((IntKind.i64.wrap (x17 + r56)) + r80)) + r104))), (46, vi r104), (45, vi (IntKind.i64.wrap (x4 + 1))), (44, vi x4), (43, v98), (42, pt b36 (o37 + Int.toNat x18 * 10 + 6)), (41, pt b36 (o37 + Int.toNat x18 * 10)), (40, vi x18), (39, sl b36 o37 (xs1).length c11), (38, vi (IntKind.i64.wrap ((IntKind.i64.wrap (x17 + r56)) + r80))), (37, vi r80), (36, vi x4), (35, v72), (34, pt b36 (o37 + Int.toNat x18 * 10 + 4)), (33, pt b36 (o37 + Int.toNat x18 * 10)), (32, vi x18), (31, sl b36 o37 (xs1).length c11), (30, vi (IntKind.i64.wrap (x17 + r56))), (29, vi r56), (28, vi x4), (27, v44), (26, pt b36 (o37 + Int.toNat x18 * 10 + 2)), (25, pt b36 (o37 + Int.toNat x18 * 10)), (24, vi x18), (23, sl b36 o37 (xs1).length c11), (22, vi x17), (0, sl b36 o37 (xs1).length c11), (1, vi x4), (5, vi x17), (6, vi x18)] (Z1 (Z1 (Z1 (Z1 (Z1 (Z1 (Z1 (Z1 (Z1 (Z1 (Z1 (Z1 (Z1 (Z1 (Z1 (Z1 (Z1 (Z1 (Z1 (Z1 (Z1 (Z1 (Z1 (Z1 (Z1 (Z1 (Z1 (Z1 (Z1 (Z1 (Z1 (Z1 (Z1 (Z1 hat hv0) hv1) hv2) hv3) hv4) hv5) hv6) hv7) hv8) hv9) hv10) hv11) hv12) hv13) hv14) hv15) hv16) hv17) hv18) hv19) hv20) hv21) hv22) hv23) hv24) hv25) hv26) hv27) hv28) hv29) hv30) hv31) hv32) hv33) ?_
    have S145 := S33.trans0 s132
    refine Wv rfl (Z2v rfl rfl) <| Wa rfl rfl <| Z7 <| Z5 <| Za <| Z0 <| Wa rfl rfl <| Z7 <| Z5 <| Z0c <| Z4j <| Z8e [0, 1, 5, 6, 7] [(0, sl b36 o37 (xs1).length c11), (1, vi x4), (5, vi (IntKind.i64.wrap ((IntKind.i64.wrap ((IntKind.i64.wrap ((IntKind.i64.wrap (x17 + r56)) + r80)) + r104)) + r128))), (6, vi x18), (7, vi 0)] rfl <| Z4m (K := j19) (fun j E w147 => ∃ (h146 : Hp) (x150 : Int) (x151 : Int), (Z0k j).law03_small_l5 xs1 x4 x18 x150 x151 = some r ∧ E = [(0, sl b36 o37 (xs1).length c11), (1, vi x4), (5, vi x150), (6, vi x18), (7, vi x151)] ∧ Stp [] w0 h0 w147 h146 ∧ Hle h131 h146) ?_ ?_ (j := j19) (Nat.le_refl _) ?_
    ·rintro E w147 ⟨_, _, _, HF, _⟩; cases HF
    ·rintro j152 hj154 IHL153 E w147 ⟨h146, x150, x151, HF, rfl, S149, le148⟩
     refine Z04 (fun E w189 => ∃ (h188 : Hp), Zeg j152 (Z0k j152) xs1 x4 x18 x150 x151 = some r ∧ E = [(0, sl b36 o37 (xs1).length c11), (1, vi x4), (5, vi x150), (6, vi x18), (7, vi x151)] ∧ Stp [] w0 h0 w189 h188 ∧ Hle h146 h188) ?_ ?_
     ·rintro E w189 ⟨h188, HF, rfl, S191, le190⟩
      refine Za <| Z0c ?_
      obtain ⟨e192, he193, HF⟩ := Z6 HF
      obtain ⟨b194, o195, hA, h197, h198, ra196⟩ := RS.atO (rs12.mono ((le15).trans ((le32).trans ((s132.le).trans ((le148).trans le190))))) he193
      obtain ⟨rfl, rfl⟩ := Z5m hA
      obtain ⟨cs199, r200, hc201⟩ := ra196
      obtain ⟨v202, v204, v206, v208, v210, v212, rfl, rs203, rs205, rs207, rs209, rs211, rs213⟩ := rp_St.1 r200
      obtain ⟨A214, c215, rfl, rs216⟩ := RS.form rs211
      obtain ⟨e217, he218, HF⟩ := Z6 HF
      obtain ⟨b219, o220, rfl, h222, h223, ra221⟩ := RS.atO rs216 he218
      obtain ⟨cs224, r225, hc226⟩ := ra221
      obtain ⟨v227, v229, v231, rfl, rs228, rs230, rs232⟩ := rp_Ar.1 r225
      obtain ⟨A233, c234, rfl, rs235⟩ := RS.form rs230
      obtain ⟨e236, he237, HF⟩ := Z6 HF
      obtain ⟨b238, o239, hA, h241, h242, ra240⟩ := RS.atO (rs12.mono ((le15).trans ((le32).trans ((s132.le).trans ((le148).trans le190))))) he237
      obtain ⟨rfl, rfl⟩ := Z5m hA
      obtain ⟨cs243, r244, hc245⟩ := ra240
      obtain ⟨v246, v248, v250, v252, v254, v256, rfl, rs247, rs249, rs251, rs253, rs255, rs257⟩ := rp_St.1 r244
      obtain ⟨A258, c259, rfl, rs260⟩ := RS.form rs255
      obtain ⟨e261, he262, HF⟩ := Z6 HF
      obtain ⟨b263, o264, rfl, h266, h267, ra265⟩ := RS.atO rs260 he262
      obtain ⟨cs268, r269, hc270⟩ := ra265
      obtain ⟨v271, v273, v275, rfl, rs272, rs274, rs276⟩ := rp_Ar.1 r269
      obtain ⟨r277, hr278, HF⟩ := Z6 HF
      obtain ⟨e279, he280, HF⟩ := Z6 HF
      obtain ⟨b281, o282, hA, h284, h285, ra283⟩ := RS.atO (rs12.mono ((le15).trans ((le32).trans ((s132.le).trans ((le148).trans le190))))) he280
      obtain ⟨rfl, rfl⟩ := Z5m hA
      obtain ⟨cs286, r287, hc288⟩ := ra283
      obtain ⟨v289, v291, v293, v295, v297, v299, rfl, rs290, rs292, rs294, rs296, rs298, rs300⟩ := rp_St.1 r287
      obtain ⟨A301, c302, rfl, rs303⟩ := RS.form rs298
      obtain ⟨e304, he305, HF⟩ := Z6 HF
      obtain ⟨b306, o307, rfl, h309, h310, ra308⟩ := RS.atO rs303 he305
      obtain ⟨cs311, r312, hc313⟩ := ra308
      obtain ⟨v314, v316, v318, rfl, rs315, rs317, rs319⟩ := rp_Ar.1 r312
      obtain ⟨r320, hr321, HF⟩ := Z6 HF
      refine Z2z (m := 37) [(0, sl b36 o37 (xs1).length c11), (1, vi x4), (5, vi x150), (6, vi x18), (7, vi x151)] [0, 1, 5, 6, 7] rfl (fun i v w h => match i with | 0 => v = vi x150 | 1 => v = vi (IntKind.i64.wrap (x150 + 1)) | 2 => v = sl b36 o37 (xs1).length c11 | 3 => v = vi x18 | 4 => v = pt b36 (o37 + Int.toNat x18 * 10) | 5 => v = pt b36 (o37 + Int.toNat x18 * 10 + 7) | 6 => v = sl b219 o220 (e192.arms).length c215 | 7 => v = vi x151 | 8 => v = pt b219 (o220 + Int.toNat x151 * 3) | 9 => v = pt b219 (o220 + Int.toNat x151 * 3 + 1) | 10 => v = .slice A233 (e217.labels).length c234 | 11 => v = vi (e217.labels.length : Int) | 12 => v = vi (IntKind.i64.wrap ((IntKind.i64.wrap (x150 + 1)) + (e217.labels.length : Int))) | 13 => v = sl b36 o37 (xs1).length c11 | 14 => v = vi x18 | 15 => v = pt b36 (o37 + Int.toNat x18 * 10) | 16 => v = pt b36 (o37 + Int.toNat x18 * 10 + 7) | 17 => v = sl b263 o264 (e236.arms).length c259 | 18 => v = vi x151 | 19 => v = pt b263 (o264 + Int.toNat x151 * 3) | 20 => v = pt b263 (o264 + Int.toNat x151 * 3) | 21 => v = v271 | 22 => v = vi x4 | 23 => v = vi r277 | 24 => v = vi (IntKind.i64.wrap ((IntKind.i64.wrap ((IntKind.i64.wrap (x150 + 1)) + (e217.labels.length : Int))) + r277)) | 25 => v = sl b36 o37 (xs1).length c11 | 26 => v = vi x18 | 27 => v = pt b36 (o37 + Int.toNat x18 * 10) | 28 => v = pt b36 (o37 + Int.toNat x18 * 10 + 7) | 29 => v = sl b306 o307 (e279.arms).length c302 | 30 => v = vi x151 | 31 => v = pt b306 (o307 + Int.toNat x151 * 3) | 32 => v = pt b306 (o307 + Int.toNat x151 * 3 + 2) | 33 => v = v318 | 34 => v = vi x4 | 35 => v = vi (IntKind.i64.wrap (x4 + 1)) | 36 => v = vi r320 | _ => True) Z4c S191.sub rfl rfl rfl rfl rfl ?_ ?_ ?_
      ·intro i v w h w2 h2 hΦ hst
       match i, hΦ with
       | 0, hΦ | 1, hΦ | 2, hΦ | 3, hΦ | 4, hΦ | 5, hΦ | 6, hΦ | 7, hΦ | 8, hΦ | 9, hΦ | 10, hΦ | 11, hΦ | 12, hΦ | 13, hΦ | 14, hΦ | 15, hΦ | 16, hΦ | 17, hΦ | 18, hΦ | 19, hΦ | 20, hΦ | 21, hΦ | 22, hΦ | 23, hΦ | 24, hΦ | 25, hΦ | 26, hΦ | 27, hΦ | 28, hΦ | 29, hΦ | 30, hΦ | 31, hΦ | 32, hΦ | 33, hΦ | 34, hΦ | 35, hΦ | 36, hΦ => exact hΦ
       | i + 37, _ => exact trivial
      ·refine ⟨?_, ?_, ?_, ?_, ?_, ?_, ?_, ?_, ?_, ?_, ?_, ?_, ?_, ?_, ?_, ?_, ?_, ?_, ?_, ?_, ?_, ?_, ?_, ?_, ?_, ?_, ?_, ?_, ?_, ?_, ?_, ?_, ?_, ?_, ?_, ?_, ?_, trivial⟩
       ·intro a w322 h323 s324 hat hF
        exact Z4 hat rfl (Z0j rfl) s324.sub (by exact rfl)
       ·intro a w322 h323 s324 hat hF
        exact Z4 (Z1 hat (hF 0 71 rfl rfl)) rfl (Z2v rfl rfl) s324.sub (by exact rfl)
       ·intro a w322 h323 s324 hat hF
        exact Z4 hat rfl (Z0j rfl) s324.sub (by exact rfl)
       ·intro a w322 h323 s324 hat hF
        exact Z4 hat rfl (Z0j rfl) s324.sub (by exact rfl)
       ·intro a w322 h323 s324 hat hF
        exact Z4 (Z1 (Z1 hat (hF 2 73 rfl rfl)) (hF 3 74 rfl rfl)) rfl (Zk rfl rfl Z1e Z2g h197 h198) s324.sub (by exact rfl)
       ·intro a w322 h323 s324 hat hF
        exact Z4 (Z1 hat (hF 4 75 rfl rfl)) rfl (Z2 rfl Z2e) s324.sub (by exact rfl)
       ·intro a w322 h323 s324 hat hF
        exact Z4 (Z1 hat (hF 5 76 rfl rfl)) rfl (Z8 rfl Z6z (s324.sub.at_ _ _ _ ((fun i v hv => (s324.le).1 _ _ _ (hc201 i v hv)) 7 _ rfl))) s324.sub (by exact rfl)
       ·intro a w322 h323 s324 hat hF
        exact Z4 hat rfl (Z0j rfl) s324.sub (by exact rfl)
       ·intro a w322 h323 s324 hat hF
        exact Z4 (Z1 (Z1 hat (hF 6 77 rfl rfl)) (hF 7 78 rfl rfl)) rfl (Zk rfl rfl Z32 Z56 h222 h223) s324.sub (by exact rfl)
       ·intro a w322 h323 s324 hat hF
        exact Z4 (Z1 hat (hF 8 79 rfl rfl)) rfl (Z2 rfl Z49) s324.sub (by exact rfl)
       ·intro a w322 h323 s324 hat hF
        exact Z4 (Z1 hat (hF 9 80 rfl rfl)) rfl (Z8 rfl Z9g (s324.sub.at_ _ _ _ ((fun i v hv => (s324.le).1 _ _ _ (hc226 i v hv)) 1 _ rfl))) s324.sub (by exact rfl)
       ·intro a w322 h323 s324 hat hF
        exact Z4 (Z1 hat (hF 10 81 rfl rfl)) rfl (Z0v rfl Z43) s324.sub (by exact rfl)
       ·intro a w322 h323 s324 hat hF
        exact Z4 (Z1 (Z1 hat (hF 1 72 rfl rfl)) (hF 11 82 rfl rfl)) rfl (Z2v rfl rfl) s324.sub (by exact rfl)
       ·intro a w322 h323 s324 hat hF
        exact Z4 hat rfl (Z0j rfl) s324.sub (by exact rfl)
       ·intro a w322 h323 s324 hat hF
        exact Z4 hat rfl (Z0j rfl) s324.sub (by exact rfl)
       ·intro a w322 h323 s324 hat hF
        exact Z4 (Z1 (Z1 hat (hF 13 84 rfl rfl)) (hF 14 85 rfl rfl)) rfl (Zk rfl rfl Z1e Z2g h241 h242) s324.sub (by exact rfl)
       ·intro a w322 h323 s324 hat hF
        exact Z4 (Z1 hat (hF 15 86 rfl rfl)) rfl (Z2 rfl Z2e) s324.sub (by exact rfl)
       ·intro a w322 h323 s324 hat hF
        exact Z4 (Z1 hat (hF 16 87 rfl rfl)) rfl (Z8 rfl Z6z (s324.sub.at_ _ _ _ ((fun i v hv => (s324.le).1 _ _ _ (hc245 i v hv)) 7 _ rfl))) s324.sub (by exact rfl)
       ·intro a w322 h323 s324 hat hF
        exact Z4 hat rfl (Z0j rfl) s324.sub (by exact rfl)
       ·intro a w322 h323 s324 hat hF
        exact Z4 (Z1 (Z1 hat (hF 17 88 rfl rfl)) (hF 18 89 rfl rfl)) rfl (Zk rfl rfl Z32 Z56 h266 h267) s324.sub (by exact rfl)
       ·intro a w322 h323 s324 hat hF
        exact Z4 (Z1 hat (hF 19 90 rfl rfl)) rfl (Z2 rfl Z50) s324.sub (by exact rfl)
       ·intro a w322 h323 s324 hat hF
        exact Z4 (Z1 hat (hF 20 91 rfl rfl)) rfl (Z8 rfl Z0h (s324.sub.at_ _ _ _ ((fun i v hv => (s324.le).1 _ _ _ (hc270 i v hv)) 0 _ rfl))) s324.sub (by exact rfl)
       ·intro a w322 h323 s324 hat hF
        exact Z4 hat rfl (Z0j rfl) s324.sub (by exact rfl)
       ·intro a w322 h323 s324 hat hF
        refine Z0n (Z1 (Z1 hat (hF 21 92 rfl rfl)) (hF 22 93 rfl rfl)) rfl (Zi (vs := [v271, vi x4]) rfl t_ent_13) (Zf4 _ hr278 s324.sub (rs272.mono (s324.le))) ?_
        rintro _ w325 ⟨h326, s327, rfl⟩
        exact ⟨_, h326, rfl, s327, (by exact rfl)⟩
       ·intro a w322 h323 s324 hat hF
        exact Z4 (Z1 (Z1 hat (hF 12 83 rfl rfl)) (hF 23 94 rfl rfl)) rfl (Z2v rfl rfl) s324.sub (by exact rfl)
       ·intro a w322 h323 s324 hat hF
        exact Z4 hat rfl (Z0j rfl) s324.sub (by exact rfl)
       ·intro a w322 h323 s324 hat hF
        exact Z4 hat rfl (Z0j rfl) s324.sub (by exact rfl)
       ·intro a w322 h323 s324 hat hF
        exact Z4 (Z1 (Z1 hat (hF 25 96 rfl rfl)) (hF 26 97 rfl rfl)) rfl (Zk rfl rfl Z1e Z2g h284 h285) s324.sub (by exact rfl)
       ·intro a w322 h323 s324 hat hF
        exact Z4 (Z1 hat (hF 27 98 rfl rfl)) rfl (Z2 rfl Z2e) s324.sub (by exact rfl)
       ·intro a w322 h323 s324 hat hF
        exact Z4 (Z1 hat (hF 28 99 rfl rfl)) rfl (Z8 rfl Z6z (s324.sub.at_ _ _ _ ((fun i v hv => (s324.le).1 _ _ _ (hc288 i v hv)) 7 _ rfl))) s324.sub (by exact rfl)
       ·intro a w322 h323 s324 hat hF
        exact Z4 hat rfl (Z0j rfl) s324.sub (by exact rfl)
       ·intro a w322 h323 s324 hat hF
        exact Z4 (Z1 (Z1 hat (hF 29 100 rfl rfl)) (hF 30 101 rfl rfl)) rfl (Zk rfl rfl Z32 Z56 h309 h310) s324.sub (by exact rfl)
       ·intro a w322 h323 s324 hat hF
        exact Z4 (Z1 hat (hF 31 102 rfl rfl)) rfl (Z2 rfl Z99) s324.sub (by exact rfl)
       ·intro a w322 h323 s324 hat hF
        exact Z4 (Z1 hat (hF 32 103 rfl rfl)) rfl (Z8 rfl Z2r (s324.sub.at_ _ _ _ ((fun i v hv => (s324.le).1 _ _ _ (hc313 i v hv)) 2 _ rfl))) s324.sub (by exact rfl)
       ·intro a w322 h323 s324 hat hF
        exact Z4 hat rfl (Z0j rfl) s324.sub (by exact rfl)
       ·intro a w322 h323 s324 hat hF
        exact Z4 (Z1 hat (hF 34 105 rfl rfl)) rfl (Z2v rfl rfl) s324.sub (by exact rfl)
       intro a w322 h323 s324 hat hF
       refine Z0n (Z1 (Z1 hat (hF 33 104 rfl rfl)) (hF 35 106 rfl rfl)) rfl (Zi (vs := [v318, vi (IntKind.i64.wrap (x4 + 1))]) rfl t_ent_6) ((IH _ (Nat.le_trans (Nat.le_of_succ_le hj154) (Nat.le_trans (Nat.le_of_succ_le hj21) (Nat.le_refl _)))) hr321 s324.sub (rs319.mono (s324.le))) ?_
       rintro _ w328 ⟨h329, s330, rfl⟩
       exact ⟨_, h329, rfl, s330, (by exact rfl)⟩
      intro a w322 h323 s324 hat hF
      obtain hv0 := hF 0 71 (by decide) rfl
      obtain hv1 := hF 1 72 (by decide) rfl
      obtain hv2 := hF 2 73 (by decide) rfl
      obtain hv3 := hF 3 74 (by decide) rfl
      obtain hv4 := hF 4 75 (by decide) rfl
      obtain hv5 := hF 5 76 (by decide) rfl
      obtain hv6 := hF 6 77 (by decide) rfl
      obtain hv7 := hF 7 78 (by decide) rfl
      obtain hv8 := hF 8 79 (by decide) rfl
      obtain hv9 := hF 9 80 (by decide) rfl
      obtain hv10 := hF 10 81 (by decide) rfl
      obtain hv11 := hF 11 82 (by decide) rfl
      obtain hv12 := hF 12 83 (by decide) rfl
      obtain hv13 := hF 13 84 (by decide) rfl
      obtain hv14 := hF 14 85 (by decide) rfl
      obtain hv15 := hF 15 86 (by decide) rfl
      obtain hv16 := hF 16 87 (by decide) rfl
      obtain hv17 := hF 17 88 (by decide) rfl
      obtain hv18 := hF 18 89 (by decide) rfl
      obtain hv19 := hF 19 90 (by decide) rfl
      obtain hv20 := hF 20 91 (by decide) rfl
      obtain hv21 := hF 21 92 (by decide) rfl
      obtain hv22 := hF 22 93 (by decide) rfl
      obtain hv23 := hF 23 94 (by decide) rfl
      obtain hv24 := hF 24 95 (by decide) rfl
      obtain hv25 := hF 25 96 (by decide) rfl
      obtain hv26 := hF 26 97 (by decide) rfl
      obtain hv27 := hF 27 98 (by decide) rfl
      obtain hv28 := hF 28 99 (by decide) rfl
      obtain hv29 := hF 29 100 (by decide) rfl
      obtain hv30 := hF 30 101 (by decide) rfl
      obtain hv31 := hF 31 102 (by decide) rfl
      obtain hv32 := hF 32 103 (by decide) rfl
      obtain hv33 := hF 33 104 (by decide) rfl
      obtain hv34 := hF 34 105 (by decide) rfl
      obtain hv35 := hF 35 106 (by decide) rfl
      obtain hv36 := hF 36 107 (by decide) rfl
      refine Z7u [(107, vi r320), (106, vi (IntKind.i64.wrap (x4 + 1))), (105, vi x4), (104, v318), (103, pt b306 (o307 + Int.toNat x151 * 3 + 2)), (102, pt b306 (o307 + Int.toNat x151 * 3)), (101, vi x151), (100, sl b306 o307 (e279.arms).length c302), (99, pt b36 (o37 + Int.toNat x18 * 10 + 7)), (98, pt b36 (o37 + Int.toNat x18 * 10)), (97, vi x18), (96, sl b36 o37 (xs1).length c11), (95, vi (IntKind.i64.wrap ((IntKind.i64.wrap ((IntKind.i64.wrap (x150 + 1)) + (e217.labels.length : Int))) + r277))), (94, vi r277), (93, vi x4), (92, v271), (91, pt b263 (o264 + Int.toNat x151 * 3)), (90, pt b263 (o264 + Int.toNat x151 * 3)), (89, vi x151), (88, sl b263 o264 (e236.arms).length c259), (87, pt b36 (o37 + Int.toNat x18 * 10 + 7)), (86, pt b36 (o37 + Int.toNat x18 * 10)), (85, vi x18), (84, sl b36 o37 (xs1).length c11), (83, vi (IntKind.i64.wrap ((IntKind.i64.wrap (x150 + 1)) + (e217.labels.length : Int)))), (82, vi (e217.labels.length : Int)), (81, .slice A233 (e217.labels).length c234), (80, pt b219 (o220 + Int.toNat x151 * 3 + 1)), (79, pt b219 (o220 + Int.toNat x151 * 3)), (78, vi x151), (77, sl b219 o220 (e192.arms).length c215), (76, pt b36 (o37 + Int.toNat x18 * 10 + 7)), (75, pt b36 (o37 + Int.toNat x18 * 10)), (74, vi x18), (73, sl b36 o37 (xs1).length c11), (72, vi (IntKind.i64.wrap (x150 + 1))), (71, vi x150), (0, sl b36 o37 (xs1).length c11), (1, vi x4), (5, vi x150), (6, vi x18), (7, vi x151)] (Z1 (Z1 (Z1 (Z1 (Z1 (Z1 (Z1 (Z1 (Z1 (Z1 (Z1 (Z1 (Z1 (Z1 (Z1 (Z1 (Z1 (Z1 (Z1 (Z1 (Z1 (Z1 (Z1 (Z1 (Z1 (Z1 (Z1 (Z1 (Z1 (Z1 (Z1 (Z1 (Z1 (Z1 (Z1 (Z1 (Z1 hat hv0) hv1) hv2) hv3) hv4) hv5) hv6) hv7) hv8) hv9) hv10) hv11) hv12) hv13) hv14) hv15) hv16) hv17) hv18) hv19) hv20) hv21) hv22) hv23) hv24) hv25) hv26) hv27) hv28) hv29) hv30) hv31) hv32) hv33) hv34) hv35) hv36) ?_
      have S331 := S191.trans0 s324
      refine Wv rfl (Z2v rfl rfl) <| Wa rfl rfl <| Z7 <| Zv <| Z5 <| Z0 <| Wm rfl rfl <| Wv rfl (Z2v rfl rfl) <| Wa rfl rfl <| Z7 <| Z2x <| Z8e [0, 1, 5, 6, 7] [(0, sl b36 o37 (xs1).length c11), (1, vi x4), (5, vi (IntKind.i64.wrap ((IntKind.i64.wrap ((IntKind.i64.wrap ((IntKind.i64.wrap (x150 + 1)) + (e217.labels.length : Int))) + r277)) + r320))), (6, vi x18), (7, vi (IntKind.i64.wrap (x151 + 1)))] rfl ?_
      exact IHL153 j152 (Nat.le_refl _) _ _ ⟨h323, IntKind.i64.wrap ((IntKind.i64.wrap ((IntKind.i64.wrap ((IntKind.i64.wrap (x150 + 1)) + (e217.labels.length : Int))) + r277)) + r320), IntKind.i64.wrap (x151 + 1), HF, rfl, S331, (le148).trans ((le190).trans s324.le)⟩
     intro J332
     refine Z04 (fun E w182 => ∃ (h181 : Hp) (x185 : Bool), Z8n j152 (Z0k j152) xs1 x4 x18 x150 x151 x185 = some r ∧ E = [(0, sl b36 o37 (xs1).length c11), (1, vi x4), (5, vi x150), (6, vi x18), (7, vi x151), (68, .bool x185)] ∧ Stp [] w0 h0 w182 h181 ∧ Hle h146 h181) ?_ ?_
     ·rintro E w182 ⟨h181, x185, HF, rfl, S184, le183⟩
      refine Z12 HF rfl (fun HF => ?_) (fun HF => ?_)
      ·refine Zm <| Z06 [0, 1, 5, 6, 7] _ rfl ?_
       exact J332 ⟨h181, HF, rfl, S184, le183⟩
      refine Z4b <| Zr <| Zr <| Z0x <| Zv <| Z5 <| Z0 <| Wm rfl rfl <| Wv rfl (Z2v rfl rfl) <| Wa rfl rfl <| Z7 <| Z2x <| Z8e [0, 1, 5, 6] [(0, sl b36 o37 (xs1).length c11), (1, vi x4), (5, vi x150), (6, vi (IntKind.i64.wrap (x18 + 1)))] rfl ?_
      exact IHL20 j152 (Nat.le_trans (Nat.le_of_succ_le hj154) (Nat.le_refl _)) _ _ ⟨h181, x150, IntKind.i64.wrap (x18 + 1), HF, rfl, S184, (le15).trans ((le32).trans ((s132.le).trans ((le148).trans le183)))⟩
     intro J187
     refine Z0 <| Wm rfl rfl <| Wm rfl rfl <| Wm rfl rfl ?_
     obtain ⟨e155, he156, HF⟩ := Z6 HF
     obtain ⟨b157, o158, hA, h160, h161, ra159⟩ := RS.atO (rs12.mono ((le15).trans ((le32).trans ((s132.le).trans le148)))) he156
     obtain ⟨rfl, rfl⟩ := Z5m hA
     obtain ⟨cs162, r163, hc164⟩ := ra159
     refine Wv rfl (Zk rfl rfl Z1e Z2g h160 h161) <| Wv rfl (Z2 rfl Z2e) ?_
     obtain ⟨v165, v167, v169, v171, v173, v175, rfl, rs166, rs168, rs170, rs172, rs174, rs176⟩ := rp_St.1 r163
     refine Wv rfl (Z8 rfl Z6z (S149.sub.at_ _ _ _ (hc164 7 _ rfl))) ?_
     obtain ⟨A177, c178, rfl, rs179⟩ := RS.form rs174
     refine Wv rfl (Z0v rfl Z32) <| Wv rfl (Z6q rfl rfl) <| Wm rfl rfl <| Z2m 65 HF rfl (fun HF => ?_) (fun HF => ?_)
     ·refine Wm rfl rfl <| Wv rfl (Zdo rfl rfl) <| Wv rfl (Zh rfl rfl) <| Z7 <| Z06 [0, 1, 5, 6, 7, 68] _ rfl ?_
      exact J187 ⟨h146, decide ((x150 : Int) ≤ 2000), HF, rfl, S149, Hle.refl _⟩
     refine Wp rfl <| Wp rfl <| Wv rfl (Zf rfl rfl) <| Z7 <| Z06 [0, 1, 5, 6, 7, 68] _ rfl ?_
     exact J187 ⟨h146, false, HF, rfl, S149, Hle.refl _⟩
    exact ⟨h131, IntKind.i64.wrap ((IntKind.i64.wrap ((IntKind.i64.wrap ((IntKind.i64.wrap (x17 + r56)) + r80)) + r104)) + r128), 0, HF, rfl, S145, Hle.refl _⟩
   intro J333
   refine Z04 (fun E w24 => ∃ (h23 : Hp) (x27 : Bool), Z8j j19 (Z0k j19) xs1 x4 x17 x18 x27 = some r ∧ E = [(0, .slice A10 (xs1).length c11), (1, vi x4), (5, vi x17), (6, vi x18), (19, .bool x27)] ∧ Stp [] w0 h0 w24 h23 ∧ Hle h13 h23) ?_ ?_
   ·rintro E w24 ⟨h23, x27, HF, rfl, S26, le25⟩
    refine Z12 HF rfl (fun HF => ?_) (fun HF => ?_)
    ·refine Zm <| Z06 [0, 1, 5, 6] _ rfl ?_
     exact J333 ⟨h23, HF, rfl, S26, le25⟩
    refine Z4b <| Zr <| Zr <| Z0x <| Z5 <| Za <| Z0 <| Wm rfl rfl <| Wa rfl rfl <| Z7 <| Z5 <| Z09 <| Zt rfl rfl ?_
    obtain rfl := Option.some.inj HF
    exact ⟨_, rfl, h23, S26, rfl⟩
   intro J29
   refine Z0 <| Wm rfl rfl <| Wm rfl rfl <| Wv rfl (Z0v rfl Z1e) <| Wv rfl (Z6q rfl rfl) <| Wm rfl rfl <| Z2m 16 HF rfl (fun HF => ?_) (fun HF => ?_)
   ·refine Wm rfl rfl <| Wv rfl (Zdo rfl rfl) <| Wv rfl (Zh rfl rfl) <| Z7 <| Z06 [0, 1, 5, 6, 19] _ rfl ?_
    exact J29 ⟨h13, decide ((x17 : Int) ≤ 2000), HF, rfl, S16, Hle.refl _⟩
   refine Wp rfl <| Wp rfl <| Wv rfl (Zf rfl rfl) <| Z7 <| Z06 [0, 1, 5, 6, 19] _ rfl ?_
   exact J29 ⟨h13, false, HF, rfl, S16, Hle.refl _⟩
  exact ⟨h6, (xs1.length : Int), 0, HF, rfl, S9, Hle.refl _⟩
 intro J334
 refine Za <| Z0 <| Wm rfl rfl <| Wv rfl (Zao rfl rfl) <| Z7 <| Z5 <| Z12 HF rfl (fun HF => ?_) (fun HF => ?_)
 ·refine Za <| Z0 <| Wa rfl rfl <| Z7 <| Z5 <| Z09 <| Zp <| Zt rfl rfl ?_
  obtain rfl := Option.some.inj HF
  exact ⟨_, rfl, h0, S0, rfl⟩
 refine Zm <| Z06 [0, 1] _ rfl ?_
 exact J334 ⟨h0, HF, rfl, S0, Hle.refl _⟩
theorem all_law03_small : ∀ k j, j ≤ k → Zda (Z0k j).law03_small := by
  intro k
  induction k with
  | zero =>
    intro j hj
    obtain rfl : j = 0 := by omega
    exact (fun _ _ _ => by intro h; cases h)
  | succ k ih =>
    intro j hj
    by_cases h : j ≤ k
    · exact ih j h
    · obtain rfl : j = k + 1 := by omega
      exact s_law03_small k ih
theorem ok_law03_small (k : Nat) : Zda (Z6s k) := (all_law03_small k k (Nat.le_refl _))
end Go.Proofs.YtaknpdhmhifpeaaGreatDoor
