import Derived.Test.YtkodnhngllfemaaGreatDoorE0
import Derived.Test.YtkodnhngllfemaaGreatDoorGP2
set_option linter.unusedVariables false
set_option linter.unusedSimpArgs false
set_option maxRecDepth 20000
set_option maxHeartbeats 4000000
namespace Go.Proofs.YtkodnhngllfemaaGreatDoor
open Go
def Zbc (φ : ByteArray → Int → Option (Tok × Int)) : Prop := ∀ ⦃x3 : ByteArray⦄ ⦃x4 : Int⦄ ⦃r : Tok × Int⦄, φ x3 x4 = some r → ∀ ⦃w0 : World⦄ ⦃h0 : Hp⦄ ⦃b1 : Nat⦄ ⦃T2 : Nat⦄, Sub h0 w0 → OB w0 h0 b1 T2 [.string x3, .int .i64 x4] →
  Calls Tryz.prog 74 #[.pointer (some ⟨b1, 0, none⟩)] w0 fun e w1 => ∃ v, e = .returned v ∧ ∃ h1, Stp [] w0 h0 w1 h1 ∧ (∃ u0 u1 : Value, v = .tuple #[u0, u1] ∧ (∃ cs : List Value, u0 = .agg cs.toArray ∧ Rp.R h1 r.1 cs) ∧ (u1 = .int .i64 r.2))
theorem Zhp (k : Nat) : Zbc (Z7q k) := by
 intro x3 x4 r HF w0 h0 b1 T2 hs0 ob5
 have S0 : Stp [] w0 h0 w0 h0 := Stp.refl hs0 _
 have lt6 : b1 < w0.heap.size := OB.lt ob5
 refine Z4o (n := 13) Tryz.func74 rfl Tryz.ntmps74 rfl [(0, pt b1 0)] rfl <| Zc <| Z0 <| Z19 (zs := [vi 0, .string Z1e, vi 0]) rfl rfl Z64 rfl S0.sub (fun w7 b8 hb9 s10 ob11 => ?_)
 have ne12 : b1 ≠ b8 := ob5.ne_new hb9
 have g13 : w0.heap.size ≤ b8 := by rw [hb9]; exact S0.size
 have S14 := S0.trans0 s10
 refine Wa rfl rfl <| Z6 <| Z4 <| Zc <| Z0 <| Wm rfl rfl ?_
 have ob15 := (ob5.step0 s10)
 obtain ⟨r16, hr17, HF⟩ := Z5 HF
 refine Wc rfl (Zd (vs := [pt b1 0, vi 1, .func (.func 127) #[] #[]]) rfl t_ent_125) (Zg1 _ hr17 S14.sub ob15) ?_
 rintro _ w19 ⟨h20, s21, rfl⟩
 have S22 := S14.trans0 s21
 refine Wa rfl rfl <| Z6 <| Z4 <| Zc <| Z0 <| Wm rfl rfl <| Wm rfl rfl ?_
 obtain ⟨r23, hr24, HF⟩ := Z5 HF
 refine Wc rfl (Zd (vs := [.string r16]) rfl t_ent_94) (ok_lexis_IsAddress _ hr24 S22.sub) ?_
 rintro _ w26 ⟨h27, s28, rfl⟩
 have S29 := S22.trans0 s28
 obtain ⟨r30, hr31, HF⟩ := Z5 HF
 refine Wc rfl (Zd (vs := [vi 6, .string r16, .bool r23]) rfl t_ent_123) (Z8j _ hr31 S29.sub) ?_
 rintro _ w33 ⟨h34, s35, _, _, rfl, ⟨cs36, rfl, r37⟩, rfl⟩
 have S38 := S29.trans0 s35
 refine Wv rfl (Z0a rfl rfl) <| Wv rfl (Z0a rfl rfl) ?_
 have ob39 := (((ob11.step0 s21).step0 s28).step0 s35)
 obtain rfl := Z67.1 r37
 refine Zr (vs := [vi r30.1.kind, .string r30.1.text, vi r30.1.pos]) rfl rfl rfl rfl Z1q (Z3 rfl (Z3 rfl (Z3 rfl Zx))) ob39 S38.sub (by simp) (ds := [vi r30.1.kind, .string r30.1.text, vi r30.1.pos]) rfl (fun w40 s41 ob42 => ?_)
 have S43 := S38.trans1 s41 (.inr g13)
 refine Wa rfl rfl <| Z6 <| Z4 <| Z0b <| Zh4 (rg2 rfl (Z5x rfl (Z0x (cs := [vi r30.1.kind, .string r30.1.text, vi r30.1.pos]) Z8c Z1q (OB.cells ob42 0 rfl))) (ri_tmp rfl)) ?_
 obtain rfl := Option.some.inj HF
 exact ⟨_, rfl, h34, S43, _, _, rfl, ⟨_, rfl, (Z67.2 rfl)⟩, rfl⟩
theorem Zgk (k : Nat) : Zbc (Z7q k) := Zhp k
def Zb9 (φ : ByteArray → Int → Option (Tok × Int)) : Prop := ∀ ⦃x3 : ByteArray⦄ ⦃x4 : Int⦄ ⦃r : Tok × Int⦄, φ x3 x4 = some r → ∀ ⦃w0 : World⦄ ⦃h0 : Hp⦄ ⦃b1 : Nat⦄ ⦃T2 : Nat⦄, Sub h0 w0 → OB w0 h0 b1 T2 [.string x3, .int .i64 x4] →
  Calls Tryz.prog 73 #[.pointer (some ⟨b1, 0, none⟩)] w0 fun e w1 => ∃ v, e = .returned v ∧ ∃ h1, Stp [] w0 h0 w1 h1 ∧ (∃ u0 u1 : Value, v = .tuple #[u0, u1] ∧ (∃ cs : List Value, u0 = .agg cs.toArray ∧ Rp.R h1 r.1 cs) ∧ (u1 = .int .i64 r.2))
theorem Zhg (k : Nat) : Zb9 (Z7p k) := by
 intro x3 x4 r HF w0 h0 b1 T2 hs0 ob5
 have S0 : Stp [] w0 h0 w0 h0 := Stp.refl hs0 _
 have lt6 : b1 < w0.heap.size := OB.lt ob5
 refine Z4o (n := 13) Tryz.func73 rfl Tryz.ntmps73 rfl [(0, pt b1 0)] rfl <| Zc <| Z0 <| Z19 (zs := [vi 0, .string Z1e, vi 0]) rfl rfl Z64 rfl S0.sub (fun w7 b8 hb9 s10 ob11 => ?_)
 have ne12 : b1 ≠ b8 := ob5.ne_new hb9
 have g13 : w0.heap.size ≤ b8 := by rw [hb9]; exact S0.size
 have S14 := S0.trans0 s10
 refine Wa rfl rfl <| Z6 <| Z4 <| Zc <| Z0 <| Wm rfl rfl ?_
 have ob15 := (ob5.step0 s10)
 obtain ⟨r16, hr17, HF⟩ := Z5 HF
 refine Wc rfl (Zd (vs := [pt b1 0, vi 0, .func (.func 72) #[] #[]]) rfl t_ent_125) (Zcx _ hr17 S14.sub ob15) ?_
 rintro _ w19 ⟨h20, s21, rfl⟩
 have S22 := S14.trans0 s21
 refine Wa rfl rfl <| Z6 <| Z4 <| Zc <| Z0 <| Wm rfl rfl <| Wm rfl rfl ?_
 obtain ⟨r23, hr24, HF⟩ := Z5 HF
 refine Wc rfl (Zd (vs := [.string r16, vi 2147483647]) rfl t_ent_90) (Zbo _ hr24 S22.sub) ?_
 rintro _ w26 ⟨h27, s28, rfl⟩
 have S29 := S22.trans0 s28
 obtain ⟨r30, hr31, HF⟩ := Z5 HF
 refine Wc rfl (Zd (vs := [vi 2, .string r16, .bool r23]) rfl t_ent_123) (Z8j _ hr31 S29.sub) ?_
 rintro _ w33 ⟨h34, s35, _, _, rfl, ⟨cs36, rfl, r37⟩, rfl⟩
 have S38 := S29.trans0 s35
 refine Wv rfl (Z0a rfl rfl) <| Wv rfl (Z0a rfl rfl) ?_
 have ob39 := (((ob11.step0 s21).step0 s28).step0 s35)
 obtain rfl := Z67.1 r37
 refine Zr (vs := [vi r30.1.kind, .string r30.1.text, vi r30.1.pos]) rfl rfl rfl rfl Z1q (Z3 rfl (Z3 rfl (Z3 rfl Zx))) ob39 S38.sub (by simp) (ds := [vi r30.1.kind, .string r30.1.text, vi r30.1.pos]) rfl (fun w40 s41 ob42 => ?_)
 have S43 := S38.trans1 s41 (.inr g13)
 refine Wa rfl rfl <| Z6 <| Z4 <| Z0b <| Zh4 (rg2 rfl (Z5x rfl (Z0x (cs := [vi r30.1.kind, .string r30.1.text, vi r30.1.pos]) Z8c Z1q (OB.cells ob42 0 rfl))) (ri_tmp rfl)) ?_
 obtain rfl := Option.some.inj HF
 exact ⟨_, rfl, h34, S43, _, _, rfl, ⟨_, rfl, (Z67.2 rfl)⟩, rfl⟩
theorem Zgq (k : Nat) : Zb9 (Z7p k) := Zhg k
def Z5s (φ : ByteArray → Int → Int → Option ByteArray) : Prop := ∀ ⦃x3 : ByteArray⦄ ⦃x4 : Int⦄ ⦃x6 : Int⦄ ⦃r : ByteArray⦄, φ x3 x4 x6 = some r → ∀ ⦃w0 : World⦄ ⦃h0 : Hp⦄ ⦃b1 : Nat⦄ ⦃T2 : Nat⦄, Sub h0 w0 → OB w0 h0 b1 T2 [.string x3, .int .i64 x4] →
  Calls Tryz.prog 125 #[.pointer (some ⟨b1, 0, none⟩), .int .i64 x6, .func (.func 126) #[] #[]] w0 fun e w1 => ∃ v, e = .returned v ∧ ∃ h1, Stp [] w0 h0 w1 h1 ∧ v = .string r
theorem Zhf (k : Nat) (IH : ∀ j, j ≤ k → Z5s (Z1l j).lexis_scanner_span_v1) : Z5s (Zb6 k (Z1l k)) := by
 intro x3 x4 x6 r HF w0 h0 b1 T2 hs0 ob5
 have S0 : Stp [] w0 h0 w0 h0 := Stp.refl hs0 _
 have lt7 : b1 < w0.heap.size := OB.lt ob5
 refine Z4o (n := 49) Tryz.func125 rfl Tryz.ntmps125 rfl [(0, pt b1 0), (1, vi x6), (2, .func (.func 126) #[] #[])] rfl <| Zc <| Z0 <| Wa rfl rfl <| Z6 <| Z4 <| Zc <| Z51 (m := 11) [(0, pt b1 0), (1, vi x6), (2, .func (.func 126) #[] #[])] [0, 1, 2] rfl (fun i v w h => match i with | 0 => v = pt b1 0 | 1 => v = pt b1 0 | 2 => v = pt b1 1 | 3 => v = vi x4 | 4 => v = vi x6 | 5 => v = vi (IntKind.i64.wrap (x4 + x6)) | 6 => v = pt b1 0 | 7 => v = pt b1 0 | 8 => v = pt b1 0 | 9 => v = .string x3 | 10 => v = vi (x3.size : Int) | _ => True) Z6h S0.sub rfl rfl rfl rfl rfl ?_ ?_ ?_
 ·intro i v w h w2 h2 hΦ hst
  match i, hΦ with
  | 0, hΦ | 1, hΦ | 2, hΦ | 3, hΦ | 4, hΦ | 5, hΦ | 6, hΦ | 7, hΦ | 8, hΦ | 9, hΦ | 10, hΦ => exact hΦ
  | i + 11, _ => exact trivial
 ·refine ⟨?_, ?_, ?_, ?_, ?_, ?_, ?_, ?_, ?_, ?_, ?_, trivial⟩
  ·intro a w8 h9 s10 hat hF
   exact Za hat rfl (Z0t rfl) s10.sub (by exact rfl)
  ·intro a w8 h9 s10 hat hF
   exact Za (Z7 hat (hF 0 8 rfl rfl)) rfl (Zp rfl) s10.sub (by exact rfl)
  ·intro a w8 h9 s10 hat hF
   exact Za (Z7 hat (hF 1 9 rfl rfl)) rfl (Z1 rfl Z0q) s10.sub (by exact rfl)
  ·intro a w8 h9 s10 hat hF
   have ob11 := (ob5.step0 s10)
   exact Za (Z7 hat (hF 2 10 rfl rfl)) rfl (Zb rfl Z04 (OB.cell ob11 (j := 1) rfl)) s10.sub (by exact rfl)
  ·intro a w8 h9 s10 hat hF
   exact Za hat rfl (Z0t rfl) s10.sub (by exact rfl)
  ·intro a w8 h9 s10 hat hF
   exact Za (Z7 (Z7 hat (hF 3 11 rfl rfl)) (hF 4 12 rfl rfl)) rfl (Z3e rfl rfl) s10.sub (by exact rfl)
  ·intro a w8 h9 s10 hat hF
   exact Za hat rfl (Z0t rfl) s10.sub (by exact rfl)
  ·intro a w8 h9 s10 hat hF
   exact Za (Z7 hat (hF 6 14 rfl rfl)) rfl (Zp rfl) s10.sub (by exact rfl)
  ·intro a w8 h9 s10 hat hF
   exact Za (Z7 hat (hF 7 15 rfl rfl)) rfl (Z1 rfl Z1v) s10.sub (by exact rfl)
  ·intro a w8 h9 s10 hat hF
   have ob12 := (ob5.step0 s10)
   exact Za (Z7 hat (hF 8 16 rfl rfl)) rfl (Zb rfl Z32 (OB.cell ob12 (j := 0) rfl)) s10.sub (by exact rfl)
  intro a w8 h9 s10 hat hF
  exact Za (Z7 hat (hF 9 17 rfl rfl)) rfl (Z7w rfl Z00) s10.sub (by exact rfl)
 intro a w8 h9 s10 hat hF
 obtain hv0 := hF 0 8 (by decide) rfl
 obtain hv1 := hF 1 9 (by decide) rfl
 obtain hv2 := hF 2 10 (by decide) rfl
 obtain hv3 := hF 3 11 (by decide) rfl
 obtain hv4 := hF 4 12 (by decide) rfl
 obtain hv5 := hF 5 13 (by decide) rfl
 obtain hv6 := hF 6 14 (by decide) rfl
 obtain hv7 := hF 7 15 (by decide) rfl
 obtain hv8 := hF 8 16 (by decide) rfl
 obtain hv9 := hF 9 17 (by decide) rfl
 obtain hv10 := hF 10 18 (by decide) rfl
 refine Zdh [(18, vi (x3.size : Int)), (17, .string x3), (16, pt b1 0), (15, pt b1 0), (14, pt b1 0), (13, vi (IntKind.i64.wrap (x4 + x6))), (12, vi x6), (11, vi x4), (10, pt b1 1), (9, pt b1 0), (8, pt b1 0), (0, pt b1 0), (1, vi x6), (2, .func (.func 126) #[] #[])] (Z7 (Z7 (Z7 (Z7 (Z7 (Z7 (Z7 (Z7 (Z7 (Z7 (Z7 hat hv0) hv1) hv2) hv3) hv4) hv5) hv6) hv7) hv8) hv9) hv10) ?_
 have S13 := S0.trans0 s10
 refine Wv rfl (ov_min rfl rfl) <| Wa rfl rfl <| Z6 <| Z4 <| Zc <| Z0r <| Z5v <| Z99 [0, 2, 7] [(0, pt b1 0), (2, .func (.func 126) #[] #[]), (7, vi (imin (IntKind.i64.wrap (x4 + x6)) (x3.size : Int)))] rfl <| Z5u (K := k) (fun j E w15 => ∃ (h14 : Hp) (x18 : Int), (Z1l j).lexis_scanner_span_v1_l1 x3 x4 x18 = some r ∧ E = [(0, pt b1 0), (2, .func (.func 126) #[] #[]), (7, vi x18)] ∧ Stp [] w0 h0 w15 h14 ∧ Hle h9 h14 ∧ OB w15 h14 b1 T2 [.string x3, vi x4]) ?_ ?_ (j := k) (Nat.le_refl _) ?_
 ·rintro E w15 ⟨_, _, HF, _⟩; cases HF
 ·rintro j20 hj22 IHL21 E w15 ⟨h14, x18, HF, rfl, S17, le16, ob19⟩
  refine Z09 (fun E w51 => ∃ (h50 : Hp), Zaj j20 (Z1l j20) x3 x4 x18 = some r ∧ E = [(0, pt b1 0), (2, .func (.func 126) #[] #[]), (7, vi x18)] ∧ Stp [] w0 h0 w51 h50 ∧ Hle h14 h50 ∧ OB w51 h50 b1 T2 [.string x3, vi x4]) ?_ ?_
  ·rintro E w51 ⟨h50, HF, rfl, S53, le52, ob54⟩
   refine Z0r <| Z0 <| Wm rfl rfl <| Wv rfl (Z3e rfl rfl) <| Wa rfl rfl <| Z6 <| Zy <| Z2p <| Z99 [0, 2, 7] [(0, pt b1 0), (2, .func (.func 126) #[] #[]), (7, vi (IntKind.i64.wrap (x18 + 1)))] rfl ?_
   exact IHL21 j20 (Nat.le_refl _) _ _ ⟨h50, IntKind.i64.wrap (x18 + 1), HF, rfl, S53, (le16).trans le52, ob54⟩
  intro J55
  refine Z09 (fun E w34 => ∃ (h33 : Hp) (x37 : Bool), Z7g j20 (Z1l j20) x3 x4 x18 x37 = some r ∧ E = [(0, pt b1 0), (2, .func (.func 126) #[] #[]), (7, vi x18), (36, .bool x37)] ∧ Stp [] w0 h0 w34 h33 ∧ Hle h14 h33 ∧ OB w34 h33 b1 T2 [.string x3, vi x4]) ?_ ?_
  ·rintro E w34 ⟨h33, x37, HF, rfl, S36, le35, ob38⟩
   refine Z15 HF rfl (fun HF => ?_) (fun HF => ?_)
   ·refine Zq <| Z01 [0, 2, 7] _ rfl ?_
    exact J55 ⟨h33, HF, rfl, S36, le35, ob38⟩
   refine Z66 <| Z05 <| Z05 <| Z1m <| Z4 <| Zc <| Z51 (m := 9) [(0, pt b1 0), (7, vi x18)] [0, 7] rfl (fun i v w h => match i with | 0 => v = pt b1 0 | 1 => v = pt b1 0 | 2 => v = pt b1 0 | 3 => v = .string x3 | 4 => v = pt b1 0 | 5 => v = pt b1 0 | 6 => v = pt b1 1 | 7 => v = vi x4 | 8 => v = vi x18 | _ => True) Z6h S36.sub rfl rfl rfl rfl rfl ?_ ?_ ?_
   ·intro i v w h w2 h2 hΦ hst
    match i, hΦ with
    | 0, hΦ | 1, hΦ | 2, hΦ | 3, hΦ | 4, hΦ | 5, hΦ | 6, hΦ | 7, hΦ | 8, hΦ => exact hΦ
    | i + 9, _ => exact trivial
   ·refine ⟨?_, ?_, ?_, ?_, ?_, ?_, ?_, ?_, ?_, trivial⟩
    ·intro a w40 h41 s42 hat hF
     exact Za hat rfl (Z0t rfl) s42.sub (by exact rfl)
    ·intro a w40 h41 s42 hat hF
     exact Za (Z7 hat (hF 0 39 rfl rfl)) rfl (Zp rfl) s42.sub (by exact rfl)
    ·intro a w40 h41 s42 hat hF
     exact Za (Z7 hat (hF 1 40 rfl rfl)) rfl (Z1 rfl Z1v) s42.sub (by exact rfl)
    ·intro a w40 h41 s42 hat hF
     have ob43 := (ob38.step0 s42)
     exact Za (Z7 hat (hF 2 41 rfl rfl)) rfl (Zb rfl Z32 (OB.cell ob43 (j := 0) rfl)) s42.sub (by exact rfl)
    ·intro a w40 h41 s42 hat hF
     exact Za hat rfl (Z0t rfl) s42.sub (by exact rfl)
    ·intro a w40 h41 s42 hat hF
     exact Za (Z7 hat (hF 4 43 rfl rfl)) rfl (Zp rfl) s42.sub (by exact rfl)
    ·intro a w40 h41 s42 hat hF
     exact Za (Z7 hat (hF 5 44 rfl rfl)) rfl (Z1 rfl Z0q) s42.sub (by exact rfl)
    ·intro a w40 h41 s42 hat hF
     have ob44 := (ob38.step0 s42)
     exact Za (Z7 hat (hF 6 45 rfl rfl)) rfl (Zb rfl Z04 (OB.cell ob44 (j := 1) rfl)) s42.sub (by exact rfl)
    intro a w40 h41 s42 hat hF
    exact Za hat rfl (Z0t rfl) s42.sub (by exact rfl)
   intro a w40 h41 s42 hat hF
   obtain hv0 := hF 0 39 (by decide) rfl
   obtain hv1 := hF 1 40 (by decide) rfl
   obtain hv2 := hF 2 41 (by decide) rfl
   obtain hv3 := hF 3 42 (by decide) rfl
   obtain hv4 := hF 4 43 (by decide) rfl
   obtain hv5 := hF 5 44 (by decide) rfl
   obtain hv6 := hF 6 45 (by decide) rfl
   obtain hv7 := hF 7 46 (by decide) rfl
   obtain hv8 := hF 8 47 (by decide) rfl
   refine Zdh [(47, vi x18), (46, vi x4), (45, pt b1 1), (44, pt b1 0), (43, pt b1 0), (42, .string x3), (41, pt b1 0), (40, pt b1 0), (39, pt b1 0), (0, pt b1 0), (7, vi x18)] (Z7 (Z7 (Z7 (Z7 (Z7 (Z7 (Z7 (Z7 (Z7 hat hv0) hv1) hv2) hv3) hv4) hv5) hv6) hv7) hv8) ?_
   have S45 := S36.trans0 s42
   obtain ⟨t46, ht47, HF⟩ := Z5 HF
   refine Wv rfl (ov_sliceSLH rfl rfl rfl Z00 ht47) <| Wa rfl rfl <| Z6 <| Z4 <| Z0b <| Z07 rfl rfl ?_
   obtain rfl := Option.some.inj HF
   exact ⟨_, rfl, h41, S45, rfl⟩
  intro J48
  refine Z0 <| Wm rfl rfl <| Wm rfl rfl <| Wv rfl (Zp rfl) <| Wv rfl (Z1 rfl Z1v) <| Wv rfl (Zb rfl Z32 (OB.cell ob19 (j := 0) rfl)) <| Wv rfl (Z7w rfl Z00) <| Wv rfl (Zdk rfl rfl) <| Wm rfl rfl <| Z27 27 HF rfl (fun HF => ?_) (fun HF => ?_)
  ·refine Wm rfl rfl <| Wm rfl rfl <| Wv rfl (Zp rfl) <| Wv rfl (Z1 rfl Z1v) <| Wv rfl (Zb rfl Z32 (OB.cell ob19 (j := 0) rfl)) <| Wm rfl rfl ?_
   obtain ⟨c24, hc25, HF⟩ := Z5 HF
   refine Wv rfl (Z73 rfl rfl Z00 hc25) ?_
   obtain ⟨r26, hr27, HF⟩ := Z5 HF
   refine Wc rfl (oc_val (vs := [.int .u8 c24]) (caps := []) rfl rfl t_ent_126) (ok_lexis_isPart _ hr27 S17.sub) ?_
   rintro _ w29 ⟨h30, s31, rfl⟩
   have S32 := S17.trans0 s31
   refine Wv rfl (Zj rfl rfl) <| Z6 ?_
   have ob49 := (ob19.step0 s31)
   refine Z01 [0, 2, 7, 36] _ rfl ?_
   exact J48 ⟨h30, r26, HF, rfl, S32, s31.le, ob49⟩
  refine Wp rfl <| Wp rfl <| Wp rfl <| Wp rfl <| Wp rfl <| Wp rfl <| Wp rfl <| Wp rfl <| Wv rfl (Zi rfl rfl) <| Z6 <| Z01 [0, 2, 7, 36] _ rfl ?_
  exact J48 ⟨h14, false, HF, rfl, S17, Hle.refl _, ob19⟩
 have ob56 := (ob5.step0 s10)
 exact ⟨h9, imin (IntKind.i64.wrap (x4 + x6)) (x3.size : Int), HF, rfl, S13, Hle.refl _, ob56⟩
theorem Zfj : ∀ k j, j ≤ k → Z5s (Z1l j).lexis_scanner_span_v1 := by
  intro k
  induction k with
  | zero =>
    intro j hj
    obtain rfl : j = 0 := by omega
    exact (fun _ _ _ _ => by intro h; cases h)
  | succ k ih =>
    intro j hj
    by_cases h : j ≤ k
    · exact ih j h
    · obtain rfl : j = k + 1 := by omega
      exact Zhf k ih
theorem Zg7 (k : Nat) : Z5s (Zb8 k) := (Zfj k k (Nat.le_refl _))
def Ze6 (φ : ByteArray → Int → Option (Tok × Int)) : Prop := ∀ ⦃x3 : ByteArray⦄ ⦃x4 : Int⦄ ⦃r : Tok × Int⦄, φ x3 x4 = some r → ∀ ⦃w0 : World⦄ ⦃h0 : Hp⦄ ⦃b1 : Nat⦄ ⦃T2 : Nat⦄, Sub h0 w0 → OB w0 h0 b1 T2 [.string x3, .int .i64 x4] →
  Calls Tryz.prog 71 #[.pointer (some ⟨b1, 0, none⟩)] w0 fun e w1 => ∃ v, e = .returned v ∧ ∃ h1, Stp [] w0 h0 w1 h1 ∧ (∃ u0 u1 : Value, v = .tuple #[u0, u1] ∧ (∃ cs : List Value, u0 = .agg cs.toArray ∧ Rp.R h1 r.1 cs) ∧ (u1 = .int .i64 r.2))
theorem s_lexis_scanner_word (k : Nat) : Ze6 (Z9s k) := by
 intro x3 x4 r HF w0 h0 b1 T2 hs0 ob5
 have S0 : Stp [] w0 h0 w0 h0 := Stp.refl hs0 _
 have lt6 : b1 < w0.heap.size := OB.lt ob5
 refine Z4o (n := 19) Tryz.func71 rfl Tryz.ntmps71 rfl [(0, pt b1 0)] rfl <| Zc <| Z0 <| Z19 (zs := [vi 0, .string Z1e, vi 0]) rfl rfl Z64 rfl S0.sub (fun w7 b8 hb9 s10 ob11 => ?_)
 have ne12 : b1 ≠ b8 := ob5.ne_new hb9
 have g13 : w0.heap.size ≤ b8 := by rw [hb9]; exact S0.size
 have S14 := S0.trans0 s10
 refine Wa rfl rfl <| Z6 <| Z4 <| Zc <| Z0 <| Wm rfl rfl ?_
 have ob15 := (ob5.step0 s10)
 obtain ⟨r16, hr17, HF⟩ := Z5 HF
 refine Wc rfl (Zd (vs := [pt b1 0, vi 0, .func (.func 126) #[] #[]]) rfl t_ent_125) (Zg7 _ hr17 S14.sub ob15) ?_
 rintro _ w19 ⟨h20, s21, rfl⟩
 have S22 := S14.trans0 s21
 refine Wa rfl rfl <| Z6 <| Z4 <| Z09 (fun E w46 => ∃ (h45 : Hp), Zd0 k r16 = some r ∧ E = [(2, pt b8 0), (4, .string r16)] ∧ Stp [] w0 h0 w46 h45 ∧ Hle h20 h45 ∧ OB w46 h45 b1 T2 [.string x3, vi x4] ∧ OB w46 h45 b8 38 [vi 0, .string Z1e, vi 0]) ?_ ?_
 ·rintro E w46 ⟨h45, HF, rfl, S48, le47, ob49, ob50⟩
  refine Zc <| Z0 <| Wm rfl rfl <| Wm rfl rfl ?_
  obtain ⟨r51, hr52, HF⟩ := Z5 HF
  refine Wc rfl (Zd (vs := [.string r16]) rfl t_ent_89) (Zfh _ hr52 S48.sub) ?_
  rintro _ w54 ⟨h55, s56, rfl⟩
  have S57 := S48.trans0 s56
  obtain ⟨r58, hr59, HF⟩ := Z5 HF
  refine Wc rfl (Zd (vs := [vi 1, .string r16, .bool r51]) rfl t_ent_123) (Z8j _ hr59 S57.sub) ?_
  rintro _ w61 ⟨h62, s63, _, _, rfl, ⟨cs64, rfl, r65⟩, rfl⟩
  have S66 := S57.trans0 s63
  refine Wv rfl (Z0a rfl rfl) <| Wv rfl (Z0a rfl rfl) ?_
  have ob67 := ((ob50.step0 s56).step0 s63)
  obtain rfl := Z67.1 r65
  refine Zr (vs := [vi r58.1.kind, .string r58.1.text, vi r58.1.pos]) rfl rfl rfl rfl Z1q (Z3 rfl (Z3 rfl (Z3 rfl Zx))) ob67 S66.sub (by simp) (ds := [vi r58.1.kind, .string r58.1.text, vi r58.1.pos]) rfl (fun w68 s69 ob70 => ?_)
  have S71 := S66.trans1 s69 (.inr g13)
  refine Wa rfl rfl <| Z6 <| Z4 <| Z0b <| Zh4 (rg2 rfl (Z5x rfl (Z0x (cs := [vi r58.1.kind, .string r58.1.text, vi r58.1.pos]) Z8c Z1q (OB.cells ob70 0 rfl))) (ri_tmp rfl)) ?_
  obtain rfl := Option.some.inj HF
  exact ⟨_, rfl, h62, S71, _, _, rfl, ⟨_, rfl, (Z67.2 rfl)⟩, rfl⟩
 intro J72
 refine Zc <| Z0 <| Wm rfl rfl ?_
 obtain ⟨r23, hr24, HF⟩ := Z5 HF
 refine Wc rfl (Zd (vs := [.string r16]) rfl t_ent_93) (ok_lexis_IsWord _ hr24 S22.sub) ?_
 rintro _ w26 ⟨h27, s28, rfl⟩
 have S29 := S22.trans0 s28
 refine Z6 <| Z4 <| Z15 HF rfl (fun HF => ?_) (fun HF => ?_)
 ·refine Zc <| Z0 <| Wm rfl rfl ?_
  obtain ⟨r31, hr32, HF⟩ := Z5 HF
  refine Wc rfl (Zd (vs := [vi 5, .string r16, .bool true]) rfl t_ent_123) (Z8j _ hr32 S29.sub) ?_
  rintro _ w34 ⟨h35, s36, _, _, rfl, ⟨cs37, rfl, r38⟩, rfl⟩
  have S39 := S29.trans0 s36
  refine Wv rfl (Z0a rfl rfl) <| Wv rfl (Z0a rfl rfl) ?_
  have ob40 := (((ob11.step0 s21).step0 s28).step0 s36)
  obtain rfl := Z67.1 r38
  refine Zr (vs := [vi r31.1.kind, .string r31.1.text, vi r31.1.pos]) rfl rfl rfl rfl Z1q (Z3 rfl (Z3 rfl (Z3 rfl Zx))) ob40 S39.sub (by simp) (ds := [vi r31.1.kind, .string r31.1.text, vi r31.1.pos]) rfl (fun w41 s42 ob43 => ?_)
  have S44 := S39.trans1 s42 (.inr g13)
  refine Wa rfl rfl <| Z6 <| Z4 <| Z0b <| Zv <| Zh4 (rg2 rfl (Z5x rfl (Z0x (cs := [vi r31.1.kind, .string r31.1.text, vi r31.1.pos]) Z8c Z1q (OB.cells ob43 0 rfl))) (ri_tmp rfl)) ?_
  obtain rfl := Option.some.inj HF
  exact ⟨_, rfl, h35, S44, _, _, rfl, ⟨_, rfl, (Z67.2 rfl)⟩, rfl⟩
 refine Zq ?_
 have ob73 := ((ob15.step0 s21).step0 s28)
 have ob74 := ((ob11.step0 s21).step0 s28)
 refine Z01 [2, 4] _ rfl ?_
 exact J72 ⟨h27, HF, rfl, S29, s28.le, ob73, ob74⟩
theorem ok_lexis_scanner_word (k : Nat) : Ze6 (Z9s k) := s_lexis_scanner_word k
def Zei (φ : ByteArray → ByteArray → Option Bool) : Prop := ∀ ⦃x1 : ByteArray⦄ ⦃x2 : ByteArray⦄ ⦃r : Bool⦄, φ x1 x2 = some r → ∀ ⦃w0 : World⦄ ⦃h0 : Hp⦄, Sub h0 w0 →
  Calls Tryz.prog 68 #[.string x1, .string x2] w0 fun e w1 => ∃ v, e = .returned v ∧ ∃ h1, Stp [] w0 h0 w1 h1 ∧ v = .bool r
theorem s_strings_HasPrefix (k : Nat) : Zei (Z81 k) := by
 intro x1 x2 r HF w0 h0  hs0 
 have S0 : Stp [] w0 h0 w0 h0 := Stp.refl hs0 _
 refine Z4o (n := 8) Tryz.func68 rfl Tryz.ntmps68 rfl [(0, .string x1), (1, .string x2)] rfl <| Zc <| Z0 <| Wa rfl rfl <| Z6 <| Z4 <| Zc <| Z0 <| Wm rfl rfl <| Wm rfl rfl ?_
 obtain ⟨r3, hr4, HF⟩ := Z5 HF
 refine Wc rfl (Zd (vs := [.string x1, .string x2]) rfl t_ent_124) (Z6i _ hr4 S0.sub) ?_
 rintro _ w6 ⟨h7, s8, rfl⟩
 have S9 := S0.trans0 s8
 refine Wa rfl rfl <| Z6 <| Z4 <| Z0b <| Z07 rfl rfl ?_
 obtain rfl := Option.some.inj HF
 exact ⟨_, rfl, h7, S9, rfl⟩
theorem Ze1 (k : Nat) : Zei (Z81 k) := s_strings_HasPrefix k
def Z7d (φ : ByteArray → Int → Option Int) : Prop := ∀ ⦃x3 : ByteArray⦄ ⦃x4 : Int⦄ ⦃r : Int⦄, φ x3 x4 = some r → ∀ ⦃w0 : World⦄ ⦃h0 : Hp⦄ ⦃b1 : Nat⦄ ⦃T2 : Nat⦄, Sub h0 w0 → OB w0 h0 b1 T2 [.string x3, .int .i64 x4] →
  Calls Tryz.prog 66 #[.pointer (some ⟨b1, 0, none⟩)] w0 fun e w1 => ∃ v, e = .returned v ∧ ∃ h1, Stp [b1] w0 h0 w1 h1 ∧ v = .tuple #[] ∧ (OB w1 h1 b1 T2 [.string x3, .int .i64 r])
theorem s_lexis_scanner_skip (k : Nat) (IH : ∀ j, j ≤ k → Z7d (Z13 j).lexis_scanner_skip) : Z7d (Zdo k (Z13 k)) := by
 intro x3 x4 r HF w0 h0 b1 T2 hs0 ob5
 have S0 : Stp [b1] w0 h0 w0 h0 := Stp.refl hs0 _
 have lt6 : b1 < w0.heap.size := OB.lt ob5
 refine Z4o (n := 84) Tryz.func66 rfl Tryz.ntmps66 rfl [(0, pt b1 0)] rfl <| Z0r <| Z5v <| Z99 [0] [(0, pt b1 0)] rfl <| Z5u (K := k) (fun j E w8 => ∃ (h7 : Hp) (x11 : Int), (Z13 j).lexis_scanner_skip_l1 x3 x11 = some r ∧ E = [(0, pt b1 0)] ∧ Stp [b1] w0 h0 w8 h7 ∧ Hle h0 h7 ∧ OB w8 h7 b1 T2 [.string x3, vi x11]) ?_ ?_ (j := k) (Nat.le_refl _) ?_
 ·rintro E w8 ⟨_, _, HF, _⟩; cases HF
 ·rintro j13 hj15 IHL14 E w8 ⟨h7, x11, HF, rfl, S10, le9, ob12⟩
  refine Z09 (fun E w25 => ∃ (h24 : Hp), Zcu j13 (Z13 j13) x3 x11 = some r ∧ E = [(0, pt b1 0)] ∧ Stp [b1] w0 h0 w25 h24 ∧ Hle h7 h24 ∧ OB w25 h24 b1 T2 [.string x3, vi x11]) ?_ ?_
  ·rintro E w25 ⟨h24, HF, rfl, S27, le26, ob28⟩
   refine Z0r <| Zc <| Z51 (m := 8) [(0, pt b1 0)] [0] rfl (fun i v w h => match i with | 0 => v = pt b1 0 | 1 => v = pt b1 0 | 2 => v = pt b1 0 | 3 => v = .string x3 | 4 => v = pt b1 0 | 5 => v = pt b1 0 | 6 => v = pt b1 1 | 7 => v = vi x11 | _ => True) Z6h S27.sub rfl rfl rfl rfl rfl ?_ ?_ ?_
   ·intro i v w h w2 h2 hΦ hst
    match i, hΦ with
    | 0, hΦ | 1, hΦ | 2, hΦ | 3, hΦ | 4, hΦ | 5, hΦ | 6, hΦ | 7, hΦ => exact hΦ
    | i + 8, _ => exact trivial
   ·refine ⟨?_, ?_, ?_, ?_, ?_, ?_, ?_, ?_, trivial⟩
    ·intro a w29 h30 s31 hat hF
     exact Za hat rfl (Z0t rfl) s31.sub (by exact rfl)
    ·intro a w29 h30 s31 hat hF
     exact Za (Z7 hat (hF 0 13 rfl rfl)) rfl (Zp rfl) s31.sub (by exact rfl)
    ·intro a w29 h30 s31 hat hF
     exact Za (Z7 hat (hF 1 14 rfl rfl)) rfl (Z1 rfl Z1v) s31.sub (by exact rfl)
    ·intro a w29 h30 s31 hat hF
     have ob32 := (ob28.step0 s31)
     exact Za (Z7 hat (hF 2 15 rfl rfl)) rfl (Zb rfl Z32 (OB.cell ob32 (j := 0) rfl)) s31.sub (by exact rfl)
    ·intro a w29 h30 s31 hat hF
     exact Za hat rfl (Z0t rfl) s31.sub (by exact rfl)
    ·intro a w29 h30 s31 hat hF
     exact Za (Z7 hat (hF 4 17 rfl rfl)) rfl (Zp rfl) s31.sub (by exact rfl)
    ·intro a w29 h30 s31 hat hF
     exact Za (Z7 hat (hF 5 18 rfl rfl)) rfl (Z1 rfl Z0q) s31.sub (by exact rfl)
    intro a w29 h30 s31 hat hF
    have ob33 := (ob28.step0 s31)
    exact Za (Z7 hat (hF 6 19 rfl rfl)) rfl (Zb rfl Z04 (OB.cell ob33 (j := 1) rfl)) s31.sub (by exact rfl)
   intro a w29 h30 s31 hat hF
   obtain hv0 := hF 0 13 (by decide) rfl
   obtain hv1 := hF 1 14 (by decide) rfl
   obtain hv2 := hF 2 15 (by decide) rfl
   obtain hv3 := hF 3 16 (by decide) rfl
   obtain hv4 := hF 4 17 (by decide) rfl
   obtain hv5 := hF 5 18 (by decide) rfl
   obtain hv6 := hF 6 19 (by decide) rfl
   obtain hv7 := hF 7 20 (by decide) rfl
   refine Zdh [(20, vi x11), (19, pt b1 1), (18, pt b1 0), (17, pt b1 0), (16, .string x3), (15, pt b1 0), (14, pt b1 0), (13, pt b1 0), (0, pt b1 0)] (Z7 (Z7 (Z7 (Z7 (Z7 (Z7 (Z7 (Z7 hat hv0) hv1) hv2) hv3) hv4) hv5) hv6) hv7) ?_
   have S34 := S27.trans0 s31
   obtain ⟨c35, hc36, HF⟩ := Z5 HF
   refine Wv rfl (Z73 rfl rfl Z00 hc36) <| Wa rfl rfl <| Z6 <| Z4 <| Z0r <| Z09 (fun E w41 => ∃ (h40 : Hp) (x44 : Bool), Z4y j13 (Z13 j13) x3 x11 x44 = some r ∧ E = [(0, pt b1 0), (22, .bool x44)] ∧ Stp [b1] w0 h0 w41 h40 ∧ Hle h30 h40 ∧ OB w41 h40 b1 T2 [.string x3, vi x11]) ?_ ?_
   ·rintro E w41 ⟨h40, x44, HF, rfl, S43, le42, ob45⟩
    refine Z15 HF rfl (fun HF => ?_) (fun HF => ?_)
    ·refine Z0 <| Wm rfl rfl <| Wv rfl (Zp rfl) <| Wv rfl (Z1 rfl Z0q) <| Wv rfl (Zb rfl Z04 (OB.cell ob45 (j := 1) rfl)) <| Wv rfl (Z3e rfl rfl) <| Wv rfl (Zp rfl) <| Wv rfl (Z1 rfl Z0q) <| Zr (vs := [vi (IntKind.i64.wrap (x11 + 1))]) rfl rfl rfl rfl Z1s (Z3 rfl Zx) ob45 S43.sub (by simp) (ds := [.string x3, vi (IntKind.i64.wrap (x11 + 1))]) rfl (fun w47 s48 ob49 => ?_)
     have S50 := S43.trans1 s48 (.inl (by simp))
     refine Z6 <| Zy <| Zy <| Z2p <| Z99 [0] [(0, pt b1 0)] rfl ?_
     exact IHL14 j13 (Nat.le_refl _) _ _ ⟨h40, IntKind.i64.wrap (x11 + 1), HF, rfl, S50, (le9).trans ((le26).trans ((s31.le).trans ((le42).trans s48.le))), ob49⟩
    refine Zc <| Z51 (m := 8) [(0, pt b1 0)] [0] rfl (fun i v w h => match i with | 0 => v = pt b1 0 | 1 => v = pt b1 0 | 2 => v = pt b1 0 | 3 => v = .string x3 | 4 => v = pt b1 0 | 5 => v = pt b1 0 | 6 => v = pt b1 1 | 7 => v = vi x11 | _ => True) Z6h S43.sub rfl rfl rfl rfl rfl ?_ ?_ ?_
    ·intro i v w h w2 h2 hΦ hst
     match i, hΦ with
     | 0, hΦ | 1, hΦ | 2, hΦ | 3, hΦ | 4, hΦ | 5, hΦ | 6, hΦ | 7, hΦ => exact hΦ
     | i + 8, _ => exact trivial
    ·refine ⟨?_, ?_, ?_, ?_, ?_, ?_, ?_, ?_, trivial⟩
     ·intro a w51 h52 s53 hat hF
      exact Za hat rfl (Z0t rfl) s53.sub (by exact rfl)
     ·intro a w51 h52 s53 hat hF
      exact Za (Z7 hat (hF 0 45 rfl rfl)) rfl (Zp rfl) s53.sub (by exact rfl)
     ·intro a w51 h52 s53 hat hF
      exact Za (Z7 hat (hF 1 46 rfl rfl)) rfl (Z1 rfl Z1v) s53.sub (by exact rfl)
     ·intro a w51 h52 s53 hat hF
      have ob54 := (ob45.step0 s53)
      exact Za (Z7 hat (hF 2 47 rfl rfl)) rfl (Zb rfl Z32 (OB.cell ob54 (j := 0) rfl)) s53.sub (by exact rfl)
     ·intro a w51 h52 s53 hat hF
      exact Za hat rfl (Z0t rfl) s53.sub (by exact rfl)
     ·intro a w51 h52 s53 hat hF
      exact Za (Z7 hat (hF 4 49 rfl rfl)) rfl (Zp rfl) s53.sub (by exact rfl)
     ·intro a w51 h52 s53 hat hF
      exact Za (Z7 hat (hF 5 50 rfl rfl)) rfl (Z1 rfl Z0q) s53.sub (by exact rfl)
     intro a w51 h52 s53 hat hF
     have ob55 := (ob45.step0 s53)
     exact Za (Z7 hat (hF 6 51 rfl rfl)) rfl (Zb rfl Z04 (OB.cell ob55 (j := 1) rfl)) s53.sub (by exact rfl)
    intro a w51 h52 s53 hat hF
    obtain hv0 := hF 0 45 (by decide) rfl
    obtain hv1 := hF 1 46 (by decide) rfl
    obtain hv2 := hF 2 47 (by decide) rfl
    obtain hv3 := hF 3 48 (by decide) rfl
    obtain hv4 := hF 4 49 (by decide) rfl
    obtain hv5 := hF 5 50 (by decide) rfl
    obtain hv6 := hF 6 51 (by decide) rfl
    obtain hv7 := hF 7 52 (by decide) rfl
    refine Zdh [(52, vi x11), (51, pt b1 1), (50, pt b1 0), (49, pt b1 0), (48, .string x3), (47, pt b1 0), (46, pt b1 0), (45, pt b1 0), (0, pt b1 0)] (Z7 (Z7 (Z7 (Z7 (Z7 (Z7 (Z7 (Z7 hat hv0) hv1) hv2) hv3) hv4) hv5) hv6) hv7) ?_
    have S56 := S43.trans0 s53
    obtain ⟨t57, ht58, HF⟩ := Z5 HF
    refine Wv rfl (Zhr rfl rfl Z00 ht58) ?_
    obtain ⟨r59, hr60, HF⟩ := Z5 HF
    refine Wc rfl (Zd (vs := [.string t57, .string (⟨#[47, 47]⟩ : ByteArray)]) rfl t_ent_68) (Ze1 _ hr60 S56.sub) ?_
    rintro _ w62 ⟨h63, s64, rfl⟩
    have S65 := S56.trans0 s64
    refine Wa rfl rfl <| Z6 <| Z4 <| Z15 HF rfl (fun HF => ?_) (fun HF => ?_)
    ·refine Z0r <| Z5v <| Z99 [0] [(0, pt b1 0)] rfl <| Z5u (K := j13) (fun j E w68 => ∃ (h67 : Hp) (x71 : Int), (Z13 j).lexis_scanner_skip_l4 x3 x71 = some r ∧ E = [(0, pt b1 0)] ∧ Stp [b1] w0 h0 w68 h67 ∧ Hle h63 h67 ∧ OB w68 h67 b1 T2 [.string x3, vi x71]) ?_ ?_ (j := j13) (Nat.le_refl _) ?_
     ·rintro E w68 ⟨_, _, HF, _⟩; cases HF
     ·rintro j73 hj75 IHL74 E w68 ⟨h67, x71, HF, rfl, S70, le69, ob72⟩
      refine Z09 (fun E w104 => ∃ (h103 : Hp), Zd5 j73 (Z13 j73) x3 x71 = some r ∧ E = [(0, pt b1 0)] ∧ Stp [b1] w0 h0 w104 h103 ∧ Hle h67 h103 ∧ OB w104 h103 b1 T2 [.string x3, vi x71]) ?_ ?_
      ·rintro E w104 ⟨h103, HF, rfl, S106, le105, ob107⟩
       refine Z0r <| Z0 <| Wm rfl rfl <| Wv rfl (Zp rfl) <| Wv rfl (Z1 rfl Z0q) <| Wv rfl (Zb rfl Z04 (OB.cell ob107 (j := 1) rfl)) <| Wv rfl (Z3e rfl rfl) <| Wv rfl (Zp rfl) <| Wv rfl (Z1 rfl Z0q) <| Zr (vs := [vi (IntKind.i64.wrap (x71 + 1))]) rfl rfl rfl rfl Z1s (Z3 rfl Zx) ob107 S106.sub (by simp) (ds := [.string x3, vi (IntKind.i64.wrap (x71 + 1))]) rfl (fun w108 s109 ob110 => ?_)
       have S111 := S106.trans1 s109 (.inl (by simp))
       refine Z6 <| Zy <| Z2p <| Z99 [0] [(0, pt b1 0)] rfl ?_
       exact IHL74 j73 (Nat.le_refl _) _ _ ⟨h103, IntKind.i64.wrap (x71 + 1), HF, rfl, S111, (le69).trans ((le105).trans s109.le), ob110⟩
      intro J112
      refine Z09 (fun E w94 => ∃ (h93 : Hp) (x97 : Bool), Z90 j73 (Z13 j73) x3 x71 x97 = some r ∧ E = [(0, pt b1 0), (76, .bool x97)] ∧ Stp [b1] w0 h0 w94 h93 ∧ Hle h67 h93 ∧ OB w94 h93 b1 T2 [.string x3, vi x71]) ?_ ?_
      ·rintro E w94 ⟨h93, x97, HF, rfl, S96, le95, ob98⟩
       refine Z15 HF rfl (fun HF => ?_) (fun HF => ?_)
       ·refine Zq <| Z01 [0] _ rfl ?_
        exact J112 ⟨h93, HF, rfl, S96, le95, ob98⟩
       refine Z66 <| Z05 <| Z05 <| Z1m <| Zy <| Zy <| Z2p <| Z99 [0] [(0, pt b1 0)] rfl ?_
       exact IHL14 j73 (Nat.le_trans (Nat.le_of_succ_le hj75) (Nat.le_refl _)) _ _ ⟨h93, x71, HF, rfl, S96, (le9).trans ((le26).trans ((s31.le).trans ((le42).trans ((s53.le).trans ((s64.le).trans ((le69).trans le95)))))), ob98⟩
      intro J100
      refine Zc0 (b := decide ((x71 : Int) < (x3.size : Int))) (fun hb76 => ?_) (fun hb76 => ?_)
      ·replace HF := bif_t hb76 HF
       refine Z51 (m := 19) [(0, pt b1 0)] [0] rfl (fun i v w h => match i with | 0 => v = pt b1 0 | 1 => v = pt b1 0 | 2 => v = pt b1 1 | 3 => v = vi x71 | 4 => v = pt b1 0 | 5 => v = pt b1 0 | 6 => v = pt b1 0 | 7 => v = .string x3 | 8 => v = vi (x3.size : Int) | 9 => v = .bool (decide ((x71 : Int) < (x3.size : Int))) | 10 => v = .bool true | 11 => v = pt b1 0 | 12 => v = pt b1 0 | 13 => v = pt b1 0 | 14 => v = .string x3 | 15 => v = pt b1 0 | 16 => v = pt b1 0 | 17 => v = pt b1 1 | 18 => v = vi x71 | _ => True) Z6h S70.sub rfl rfl rfl rfl rfl ?_ ?_ ?_
       ·intro i v w h w2 h2 hΦ hst
        match i, hΦ with
        | 0, hΦ | 1, hΦ | 2, hΦ | 3, hΦ | 4, hΦ | 5, hΦ | 6, hΦ | 7, hΦ | 8, hΦ | 9, hΦ | 10, hΦ | 11, hΦ | 12, hΦ | 13, hΦ | 14, hΦ | 15, hΦ | 16, hΦ | 17, hΦ | 18, hΦ => exact hΦ
        | i + 19, _ => exact trivial
       ·refine ⟨?_, ?_, ?_, ?_, ?_, ?_, ?_, ?_, ?_, ?_, ?_, ?_, ?_, ?_, ?_, ?_, ?_, ?_, ?_, trivial⟩
        ·intro a w77 h78 s79 hat hF
         exact Za hat rfl (Z0t rfl) s79.sub (by exact rfl)
        ·intro a w77 h78 s79 hat hF
         exact Za (Z7 hat (hF 0 55 rfl rfl)) rfl (Zp rfl) s79.sub (by exact rfl)
        ·intro a w77 h78 s79 hat hF
         exact Za (Z7 hat (hF 1 56 rfl rfl)) rfl (Z1 rfl Z0q) s79.sub (by exact rfl)
        ·intro a w77 h78 s79 hat hF
         have ob80 := (ob72.step0 s79)
         exact Za (Z7 hat (hF 2 57 rfl rfl)) rfl (Zb rfl Z04 (OB.cell ob80 (j := 1) rfl)) s79.sub (by exact rfl)
        ·intro a w77 h78 s79 hat hF
         exact Za hat rfl (Z0t rfl) s79.sub (by exact rfl)
        ·intro a w77 h78 s79 hat hF
         exact Za (Z7 hat (hF 4 59 rfl rfl)) rfl (Zp rfl) s79.sub (by exact rfl)
        ·intro a w77 h78 s79 hat hF
         exact Za (Z7 hat (hF 5 60 rfl rfl)) rfl (Z1 rfl Z1v) s79.sub (by exact rfl)
        ·intro a w77 h78 s79 hat hF
         have ob81 := (ob72.step0 s79)
         exact Za (Z7 hat (hF 6 61 rfl rfl)) rfl (Zb rfl Z32 (OB.cell ob81 (j := 0) rfl)) s79.sub (by exact rfl)
        ·intro a w77 h78 s79 hat hF
         exact Za (Z7 hat (hF 7 62 rfl rfl)) rfl (Z7w rfl Z00) s79.sub (by exact rfl)
        ·intro a w77 h78 s79 hat hF
         exact Za (Z7 (Z7 hat (hF 3 58 rfl rfl)) (hF 8 63 rfl rfl)) rfl (Zdk rfl rfl) s79.sub (by exact rfl)
        ·intro a w77 h78 s79 hat hF
         exact Za (Z7 hat (hF 9 64 rfl rfl)) rfl (ov_bool (Z0t rfl) hb76) s79.sub (by exact rfl)
        ·intro a w77 h78 s79 hat hF
         exact Za (Z7 hat (hF 10 65 rfl rfl)) rfl (Z0t rfl) s79.sub (by exact rfl)
        ·intro a w77 h78 s79 hat hF
         exact Za (Z7 (Z7 hat (hF 10 65 rfl rfl)) (hF 11 66 rfl rfl)) rfl (Zp rfl) s79.sub (by exact rfl)
        ·intro a w77 h78 s79 hat hF
         exact Za (Z7 (Z7 hat (hF 10 65 rfl rfl)) (hF 12 67 rfl rfl)) rfl (Z1 rfl Z1v) s79.sub (by exact rfl)
        ·intro a w77 h78 s79 hat hF
         have ob82 := (ob72.step0 s79)
         exact Za (Z7 (Z7 hat (hF 10 65 rfl rfl)) (hF 13 68 rfl rfl)) rfl (Zb rfl Z32 (OB.cell ob82 (j := 0) rfl)) s79.sub (by exact rfl)
        ·intro a w77 h78 s79 hat hF
         exact Za (Z7 hat (hF 10 65 rfl rfl)) rfl (Z0t rfl) s79.sub (by exact rfl)
        ·intro a w77 h78 s79 hat hF
         exact Za (Z7 (Z7 hat (hF 10 65 rfl rfl)) (hF 15 70 rfl rfl)) rfl (Zp rfl) s79.sub (by exact rfl)
        ·intro a w77 h78 s79 hat hF
         exact Za (Z7 (Z7 hat (hF 10 65 rfl rfl)) (hF 16 71 rfl rfl)) rfl (Z1 rfl Z0q) s79.sub (by exact rfl)
        intro a w77 h78 s79 hat hF
        have ob83 := (ob72.step0 s79)
        exact Za (Z7 (Z7 hat (hF 10 65 rfl rfl)) (hF 17 72 rfl rfl)) rfl (Zb rfl Z04 (OB.cell ob83 (j := 1) rfl)) s79.sub (by exact rfl)
       intro a w77 h78 s79 hat hF
       obtain hv0 := hF 0 55 (by decide) rfl
       obtain hv1 := hF 1 56 (by decide) rfl
       obtain hv2 := hF 2 57 (by decide) rfl
       obtain hv3 := hF 3 58 (by decide) rfl
       obtain hv4 := hF 4 59 (by decide) rfl
       obtain hv5 := hF 5 60 (by decide) rfl
       obtain hv6 := hF 6 61 (by decide) rfl
       obtain hv7 := hF 7 62 (by decide) rfl
       obtain hv8 := hF 8 63 (by decide) rfl
       obtain hv9 := hF 9 64 (by decide) rfl
       obtain hv10 := hF 10 65 (by decide) rfl
       obtain hv11 := hF 11 66 (by decide) rfl
       obtain hv12 := hF 12 67 (by decide) rfl
       obtain hv13 := hF 13 68 (by decide) rfl
       obtain hv14 := hF 14 69 (by decide) rfl
       obtain hv15 := hF 15 70 (by decide) rfl
       obtain hv16 := hF 16 71 (by decide) rfl
       obtain hv17 := hF 17 72 (by decide) rfl
       obtain hv18 := hF 18 73 (by decide) rfl
       refine Zdh [(73, vi x71), (72, pt b1 1), (71, pt b1 0), (70, pt b1 0), (69, .string x3), (68, pt b1 0), (67, pt b1 0), (66, pt b1 0), (65, .bool true), (64, .bool (decide ((x71 : Int) < (x3.size : Int)))), (63, vi (x3.size : Int)), (62, .string x3), (61, pt b1 0), (60, pt b1 0), (59, pt b1 0), (58, vi x71), (57, pt b1 1), (56, pt b1 0), (55, pt b1 0), (0, pt b1 0)] (Z7 (Z7 (Z7 (Z7 (Z7 (Z7 (Z7 (Z7 (Z7 (Z7 (Z7 (Z7 (Z7 (Z7 (Z7 (Z7 (Z7 (Z7 (Z7 hat hv0) hv1) hv2) hv3) hv4) hv5) hv6) hv7) hv8) hv9) hv10) hv11) hv12) hv13) hv14) hv15) hv16) hv17) hv18) ?_
       have S84 := S70.trans0 s79
       obtain ⟨c85, hc86, HF⟩ := Z5 HF
       refine Wv rfl (Z73 rfl rfl Z00 hc86) <| Wv rfl (Zca rfl rfl) <| Wv rfl (Zj rfl rfl) <| Z6 ?_
       have ob101 := (ob72.step0 s79)
       refine Z01 [0, 76] _ rfl ?_
       exact J100 ⟨h78, (c85 : Int) != 10, HF, rfl, S84, s79.le, ob101⟩
      replace HF := bif_f hb76 HF
      refine Z51 (m := 19) [(0, pt b1 0)] [0] rfl (fun i v w h => match i with | 0 => v = pt b1 0 | 1 => v = pt b1 0 | 2 => v = pt b1 1 | 3 => v = vi x71 | 4 => v = pt b1 0 | 5 => v = pt b1 0 | 6 => v = pt b1 0 | 7 => v = .string x3 | 8 => v = vi (x3.size : Int) | 9 => v = .bool (decide ((x71 : Int) < (x3.size : Int))) | 10 => v = .bool false | 11 => v = undef | 12 => v = undef | 13 => v = undef | 14 => v = undef | 15 => v = undef | 16 => v = undef | 17 => v = undef | 18 => v = undef | _ => True) Z6h S70.sub rfl rfl rfl rfl rfl ?_ ?_ ?_
      ·intro i v w h w2 h2 hΦ hst
       match i, hΦ with
       | 0, hΦ | 1, hΦ | 2, hΦ | 3, hΦ | 4, hΦ | 5, hΦ | 6, hΦ | 7, hΦ | 8, hΦ | 9, hΦ | 10, hΦ | 11, hΦ | 12, hΦ | 13, hΦ | 14, hΦ | 15, hΦ | 16, hΦ | 17, hΦ | 18, hΦ => exact hΦ
       | i + 19, _ => exact trivial
      ·refine ⟨?_, ?_, ?_, ?_, ?_, ?_, ?_, ?_, ?_, ?_, ?_, ?_, ?_, ?_, ?_, ?_, ?_, ?_, ?_, trivial⟩
       ·intro a w87 h88 s89 hat hF
        exact Za hat rfl (Z0t rfl) s89.sub (by exact rfl)
       ·intro a w87 h88 s89 hat hF
        exact Za (Z7 hat (hF 0 55 rfl rfl)) rfl (Zp rfl) s89.sub (by exact rfl)
       ·intro a w87 h88 s89 hat hF
        exact Za (Z7 hat (hF 1 56 rfl rfl)) rfl (Z1 rfl Z0q) s89.sub (by exact rfl)
       ·intro a w87 h88 s89 hat hF
        have ob90 := (ob72.step0 s89)
        exact Za (Z7 hat (hF 2 57 rfl rfl)) rfl (Zb rfl Z04 (OB.cell ob90 (j := 1) rfl)) s89.sub (by exact rfl)
       ·intro a w87 h88 s89 hat hF
        exact Za hat rfl (Z0t rfl) s89.sub (by exact rfl)
       ·intro a w87 h88 s89 hat hF
        exact Za (Z7 hat (hF 4 59 rfl rfl)) rfl (Zp rfl) s89.sub (by exact rfl)
       ·intro a w87 h88 s89 hat hF
        exact Za (Z7 hat (hF 5 60 rfl rfl)) rfl (Z1 rfl Z1v) s89.sub (by exact rfl)
       ·intro a w87 h88 s89 hat hF
        have ob91 := (ob72.step0 s89)
        exact Za (Z7 hat (hF 6 61 rfl rfl)) rfl (Zb rfl Z32 (OB.cell ob91 (j := 0) rfl)) s89.sub (by exact rfl)
       ·intro a w87 h88 s89 hat hF
        exact Za (Z7 hat (hF 7 62 rfl rfl)) rfl (Z7w rfl Z00) s89.sub (by exact rfl)
       ·intro a w87 h88 s89 hat hF
        exact Za (Z7 (Z7 hat (hF 3 58 rfl rfl)) (hF 8 63 rfl rfl)) rfl (Zdk rfl rfl) s89.sub (by exact rfl)
       ·intro a w87 h88 s89 hat hF
        exact Za (Z7 hat (hF 9 64 rfl rfl)) rfl (ov_bool (Z0t rfl) hb76) s89.sub (by exact rfl)
       ·intro a w87 h88 s89 hat hF
        exact Zc8 (Z7 hat (hF 10 65 rfl rfl)) rfl (by exact rfl)
       ·intro a w87 h88 s89 hat hF
        exact Zc8 (Z7 (Z7 hat (hF 10 65 rfl rfl)) (hF 11 66 rfl rfl)) rfl (by exact rfl)
       ·intro a w87 h88 s89 hat hF
        exact Zc8 (Z7 (Z7 hat (hF 10 65 rfl rfl)) (hF 12 67 rfl rfl)) rfl (by exact rfl)
       ·intro a w87 h88 s89 hat hF
        exact Zc8 (Z7 (Z7 hat (hF 10 65 rfl rfl)) (hF 13 68 rfl rfl)) rfl (by exact rfl)
       ·intro a w87 h88 s89 hat hF
        exact Zc8 (Z7 hat (hF 10 65 rfl rfl)) rfl (by exact rfl)
       ·intro a w87 h88 s89 hat hF
        exact Zc8 (Z7 (Z7 hat (hF 10 65 rfl rfl)) (hF 15 70 rfl rfl)) rfl (by exact rfl)
       ·intro a w87 h88 s89 hat hF
        exact Zc8 (Z7 (Z7 hat (hF 10 65 rfl rfl)) (hF 16 71 rfl rfl)) rfl (by exact rfl)
       intro a w87 h88 s89 hat hF
       exact Zc8 (Z7 (Z7 hat (hF 10 65 rfl rfl)) (hF 17 72 rfl rfl)) rfl (by exact rfl)
      intro a w87 h88 s89 hat hF
      obtain hv0 := hF 0 55 (by decide) rfl
      obtain hv1 := hF 1 56 (by decide) rfl
      obtain hv2 := hF 2 57 (by decide) rfl
      obtain hv3 := hF 3 58 (by decide) rfl
      obtain hv4 := hF 4 59 (by decide) rfl
      obtain hv5 := hF 5 60 (by decide) rfl
      obtain hv6 := hF 6 61 (by decide) rfl
      obtain hv7 := hF 7 62 (by decide) rfl
      obtain hv8 := hF 8 63 (by decide) rfl
      obtain hv9 := hF 9 64 (by decide) rfl
      obtain hv10 := hF 10 65 (by decide) rfl
      obtain hv11 := hF 11 66 (by decide) rfl
      obtain hv12 := hF 12 67 (by decide) rfl
      obtain hv13 := hF 13 68 (by decide) rfl
      obtain hv14 := hF 14 69 (by decide) rfl
      obtain hv15 := hF 15 70 (by decide) rfl
      obtain hv16 := hF 16 71 (by decide) rfl
      obtain hv17 := hF 17 72 (by decide) rfl
      obtain hv18 := hF 18 73 (by decide) rfl
      refine Zdh [(73, undef), (72, undef), (71, undef), (70, undef), (69, undef), (68, undef), (67, undef), (66, undef), (65, .bool false), (64, .bool (decide ((x71 : Int) < (x3.size : Int)))), (63, vi (x3.size : Int)), (62, .string x3), (61, pt b1 0), (60, pt b1 0), (59, pt b1 0), (58, vi x71), (57, pt b1 1), (56, pt b1 0), (55, pt b1 0), (0, pt b1 0)] (Z7 (Z7 (Z7 (Z7 (Z7 (Z7 (Z7 (Z7 (Z7 (Z7 (Z7 (Z7 (Z7 (Z7 (Z7 (Z7 (Z7 (Z7 (Z7 hat hv0) hv1) hv2) hv3) hv4) hv5) hv6) hv7) hv8) hv9) hv10) hv11) hv12) hv13) hv14) hv15) hv16) hv17) hv18) ?_
      have S92 := S70.trans0 s89
      refine Wp rfl <| Wp rfl <| Wv rfl (Zi rfl rfl) <| Z6 ?_
      have ob102 := (ob72.step0 s89)
      refine Z01 [0, 76] _ rfl ?_
      exact J100 ⟨h88, false, HF, rfl, S92, s89.le, ob102⟩
     have ob113 := ((ob45.step0 s53).step0 s64)
     exact ⟨h63, x11, HF, rfl, S65, Hle.refl _, ob113⟩
    refine Z0b <| Z0k <| Z0k <| Zv <| Z0k ?_
    have ob114 := ((ob45.step0 s53).step0 s64)
    refine WQ.ret0 rfl ?_
    obtain rfl := Option.some.inj HF
    exact ⟨_, rfl, h63, S65, rfl, ob114⟩
   intro J115
   refine Z0 <| Wm rfl rfl <| Wv rfl (Z1g rfl rfl) <| Wm rfl rfl <| Z27 25 HF rfl (fun HF => ?_) (fun HF => ?_)
   ·refine Wp rfl <| Wp rfl <| Wv rfl (Zj rfl rfl) <| Wm rfl rfl <| Wp rfl <| Wp rfl <| Wv rfl (Zj rfl rfl) <| Wm rfl rfl <| Wp rfl <| Wp rfl <| Wv rfl (Zj rfl rfl) <| Wa rfl rfl <| Z6 ?_
    have ob116 := (ob28.step0 s31)
    refine Z01 [0, 22] _ rfl ?_
    exact J115 ⟨h30, true, HF, rfl, S34, Hle.refl _, ob116⟩
   refine Wm rfl rfl <| Wv rfl (Z1g rfl rfl) <| Wv rfl (Zi rfl rfl) <| Wm rfl rfl <| Z27 29 HF rfl (fun HF => ?_) (fun HF => ?_)
   ·refine Wp rfl <| Wp rfl <| Wv rfl (Zj rfl rfl) <| Wm rfl rfl <| Wp rfl <| Wp rfl <| Wv rfl (Zj rfl rfl) <| Wa rfl rfl <| Z6 ?_
    have ob117 := (ob28.step0 s31)
    refine Z01 [0, 22] _ rfl ?_
    exact J115 ⟨h30, true, HF, rfl, S34, Hle.refl _, ob117⟩
   refine Wm rfl rfl <| Wv rfl (Z1g rfl rfl) <| Wv rfl (Zi rfl rfl) <| Wm rfl rfl <| Z27 33 HF rfl (fun HF => ?_) (fun HF => ?_)
   ·refine Wp rfl <| Wp rfl <| Wv rfl (Zj rfl rfl) <| Wa rfl rfl <| Z6 ?_
    have ob118 := (ob28.step0 s31)
    refine Z01 [0, 22] _ rfl ?_
    exact J115 ⟨h30, true, HF, rfl, S34, Hle.refl _, ob118⟩
   refine Wm rfl rfl <| Wv rfl (Z1g rfl rfl) <| Wv rfl (Zi rfl rfl) <| Wa rfl rfl <| Z6 ?_
   have ob119 := (ob28.step0 s31)
   refine Z01 [0, 22] _ rfl ?_
   exact J115 ⟨h30, (c35 : Int) == 13, HF, rfl, S34, Hle.refl _, ob119⟩
  intro J120
  refine Zc <| Z51 (m := 9) [(0, pt b1 0)] [0] rfl (fun i v w h => match i with | 0 => v = pt b1 0 | 1 => v = pt b1 0 | 2 => v = pt b1 1 | 3 => v = vi x11 | 4 => v = pt b1 0 | 5 => v = pt b1 0 | 6 => v = pt b1 0 | 7 => v = .string x3 | 8 => v = vi (x3.size : Int) | _ => True) Z6h S10.sub rfl rfl rfl rfl rfl ?_ ?_ ?_
  ·intro i v w h w2 h2 hΦ hst
   match i, hΦ with
   | 0, hΦ | 1, hΦ | 2, hΦ | 3, hΦ | 4, hΦ | 5, hΦ | 6, hΦ | 7, hΦ | 8, hΦ => exact hΦ
   | i + 9, _ => exact trivial
  ·refine ⟨?_, ?_, ?_, ?_, ?_, ?_, ?_, ?_, ?_, trivial⟩
   ·intro a w16 h17 s18 hat hF
    exact Za hat rfl (Z0t rfl) s18.sub (by exact rfl)
   ·intro a w16 h17 s18 hat hF
    exact Za (Z7 hat (hF 0 3 rfl rfl)) rfl (Zp rfl) s18.sub (by exact rfl)
   ·intro a w16 h17 s18 hat hF
    exact Za (Z7 hat (hF 1 4 rfl rfl)) rfl (Z1 rfl Z0q) s18.sub (by exact rfl)
   ·intro a w16 h17 s18 hat hF
    have ob19 := (ob12.step0 s18)
    exact Za (Z7 hat (hF 2 5 rfl rfl)) rfl (Zb rfl Z04 (OB.cell ob19 (j := 1) rfl)) s18.sub (by exact rfl)
   ·intro a w16 h17 s18 hat hF
    exact Za hat rfl (Z0t rfl) s18.sub (by exact rfl)
   ·intro a w16 h17 s18 hat hF
    exact Za (Z7 hat (hF 4 7 rfl rfl)) rfl (Zp rfl) s18.sub (by exact rfl)
   ·intro a w16 h17 s18 hat hF
    exact Za (Z7 hat (hF 5 8 rfl rfl)) rfl (Z1 rfl Z1v) s18.sub (by exact rfl)
   ·intro a w16 h17 s18 hat hF
    have ob20 := (ob12.step0 s18)
    exact Za (Z7 hat (hF 6 9 rfl rfl)) rfl (Zb rfl Z32 (OB.cell ob20 (j := 0) rfl)) s18.sub (by exact rfl)
   intro a w16 h17 s18 hat hF
   exact Za (Z7 hat (hF 7 10 rfl rfl)) rfl (Z7w rfl Z00) s18.sub (by exact rfl)
  intro a w16 h17 s18 hat hF
  obtain hv0 := hF 0 3 (by decide) rfl
  obtain hv1 := hF 1 4 (by decide) rfl
  obtain hv2 := hF 2 5 (by decide) rfl
  obtain hv3 := hF 3 6 (by decide) rfl
  obtain hv4 := hF 4 7 (by decide) rfl
  obtain hv5 := hF 5 8 (by decide) rfl
  obtain hv6 := hF 6 9 (by decide) rfl
  obtain hv7 := hF 7 10 (by decide) rfl
  obtain hv8 := hF 8 11 (by decide) rfl
  refine Zdh [(11, vi (x3.size : Int)), (10, .string x3), (9, pt b1 0), (8, pt b1 0), (7, pt b1 0), (6, vi x11), (5, pt b1 1), (4, pt b1 0), (3, pt b1 0), (0, pt b1 0)] (Z7 (Z7 (Z7 (Z7 (Z7 (Z7 (Z7 (Z7 (Z7 hat hv0) hv1) hv2) hv3) hv4) hv5) hv6) hv7) hv8) ?_
  have S21 := S10.trans0 s18
  refine Wv rfl (Zdk rfl rfl) <| Z6 <| Z4 <| Z15 HF rfl (fun HF => ?_) (fun HF => ?_)
  ·refine Zq ?_
   have ob121 := (ob12.step0 s18)
   refine Z01 [0] _ rfl ?_
   exact J120 ⟨h17, HF, rfl, S21, s18.le, ob121⟩
  refine Z66 <| Z05 <| Z05 <| Z1m ?_
  have ob23 := (ob12.step0 s18)
  refine Z6j rfl ?_
  obtain rfl := Option.some.inj HF
  exact ⟨_, rfl, h17, S21, rfl, ob23⟩
 exact ⟨h0, x4, HF, rfl, S0, Hle.refl _, ob5⟩
theorem all_lexis_scanner_skip : ∀ k j, j ≤ k → Z7d (Z13 j).lexis_scanner_skip := by
  intro k
  induction k with
  | zero =>
    intro j hj
    obtain rfl : j = 0 := by omega
    exact (fun _ _ _ => by intro h; cases h)
  | succ k ih =>
    intro j hj
    by_cases h : j ≤ k
    · exact ih j h
    · obtain rfl : j = k + 1 := by omega
      exact s_lexis_scanner_skip k ih
theorem Z3v (k : Nat) : Z7d (Z3h k) := (all_lexis_scanner_skip k k (Nat.le_refl _))
def Z55 (φ : YS → ByteArray → Int → Option (Int × YS)) : Prop := ∀ ⦃y2 : YS⦄ ⦃x7 : ByteArray⦄ ⦃x8 : Int⦄ ⦃r : Int × YS⦄, φ y2 x7 x8 = some r → ∀ ⦃w0 : World⦄ ⦃h0 : Hp⦄ ⦃l1 : Nat⦄ ⦃J : YS → World → Hp → Prop⦄ ⦃MY : List Nat⦄ ⦃b3 : Nat⦄ ⦃T4 : Nat⦄ ⦃b5 : Nat⦄ ⦃T6 : Nat⦄, Sub h0 w0 → (∀ i ∈ MY, i < w0.heap.size) → (∀ s w h M w1 h1, J s w h → Stp M w h w1 h1 → YM MY w h M → J s w1 h1) → (∀ s t n r w h cs, yfTok s t n = some r → J s w h → w0.heap.size ≤ w.heap.size → Sub h w → Rp.R h t cs → YieldAt Fence.wide 0 Tryz.prog l1 #[.agg cs.toArray, .int .i64 n] w fun e w1 => ∃ b, e = .returned (.bool b) ∧ b = r.1 ∧ ∃ h1 M, J r.2 w1 h1 ∧ Stp M w h w1 h1 ∧ (∀ i ∈ M, i ∈ MY ∨ w0.heap.size ≤ i) ∧ ∀ b T cs, OB w h b T cs → b ∉ MY → b ∉ M) → OB w0 h0 b3 T4 [.pointer (some ⟨b5, 0, none⟩)] → OB w0 h0 b5 T6 [.string x7, .int .i64 x8] → J y2 w0 h0 → b3 ≠ b5 → b3 ∉ MY → b5 ∉ MY →
  Calls Tryz.prog 65 #[.func (.yield l1) #[] #[], .pointer (some ⟨b3, 0, none⟩)] w0 fun e w1 => ∃ v, e = .returned v ∧ ∃ h1, Stp ([b5] ++ MY) w0 h0 w1 h1 ∧ v = .tuple #[] ∧ (OB w1 h1 b5 T6 [.string x7, .int .i64 r.1]) ∧ (J r.2 w1 h1)
theorem Zgw (k : Nat) (IH : ∀ j, j ≤ k → Z55 (Z03 j).lexis_scanner_tokens_1) : Z55 (Zax k (Z03 k)) := by
 intro y2 x7 x8 r HF w0 h0 l1 J MY b3 T4 b5 T6 hs0 hMY hYst hY ob10 ob9 hJ0 ne11 ne12 ne13
 have S0 : Stp ([b5] ++ MY) w0 h0 w0 h0 := Stp.refl hs0 _
 have lt14 : b3 < w0.heap.size := OB.lt ob10
 have lt15 : b5 < w0.heap.size := OB.lt ob9
 refine Z4o (n := 87) Tryz.func65 rfl Tryz.ntmps65 rfl [(0, .func (.yield l1) #[] #[]), (1, pt b3 0)] rfl <| Zc <| Z0 <| Wv rfl (Zb rfl Z3y (OB.cell ob10 (j := 0) rfl)) ?_
 obtain ⟨r16, hr17, HF⟩ := Z5 HF
 refine Wc rfl (Zd (vs := [pt b5 0]) rfl t_ent_66) (Z3v _ hr17 S0.sub ob9) ?_
 rintro v18 w19 ⟨h20, s21, rfl, ob22⟩
 have S23 := S0.trans s21 (Zl (.inl (by simp)) Zt)
 refine Z6 <| Z4 <| Z0r <| Z5v <| Z99 [0, 1] [(0, .func (.yield l1) #[] #[]), (1, pt b3 0)] rfl <| Z5u (K := k) (fun j E w25 => ∃ (h24 : Hp) (x29 : Int) (x31 : YS), (Z03 j).lexis_scanner_tokens_1_l1 x7 x29 x31 = some r ∧ E = [(0, .func (.yield l1) #[] #[]), (1, pt b3 0)] ∧ Stp ([b5] ++ MY) w0 h0 w25 h24 ∧ Hle h20 h24 ∧ OB w25 h24 b3 T4 [pt b5 0] ∧ OB w25 h24 b5 T6 [.string x7, vi x29] ∧ J x31 w25 h24) ?_ ?_ (j := k) (Nat.le_refl _) ?_
 ·rintro E w25 ⟨_, _, _, HF, _⟩; cases HF
 ·rintro j33 hj35 IHL34 E w25 ⟨h24, x29, x31, HF, rfl, S27, le26, ob28, ob30, ob32⟩
  refine Z09 (fun E w48 => ∃ (h47 : Hp), Za4 j33 (Z03 j33) x7 x29 x31 = some r ∧ E = [(0, .func (.yield l1) #[] #[]), (1, pt b3 0)] ∧ Stp ([b5] ++ MY) w0 h0 w48 h47 ∧ Hle h24 h47 ∧ OB w48 h47 b3 T4 [pt b5 0] ∧ OB w48 h47 b5 T6 [.string x7, vi x29] ∧ J x31 w48 h47) ?_ ?_
  ·rintro E w48 ⟨h47, HF, rfl, S50, le49, ob51, ob52, ob53⟩
   refine Zc <| Z0r <| Zc <| Z0 <| Wv rfl (Zb rfl Z3y (OB.cell ob51 (j := 0) rfl)) <| Wv rfl (Z56 (us := [pt b5 0]) (vs := []) rfl rfl) <| Wa rfl rfl <| Z6 <| Z4 <| Zc <| Zc <| Z51 (m := 8) [(0, .func (.yield l1) #[] #[]), (1, pt b3 0), (3, .func (.func 67) #[pt b5 0] #[])] [0, 1, 3] rfl (fun i v w h => match i with | 0 => v = pt b5 0 | 1 => v = pt b5 0 | 2 => v = pt b5 0 | 3 => v = .string x7 | 4 => v = pt b5 0 | 5 => v = pt b5 0 | 6 => v = pt b5 1 | 7 => v = vi x29 | _ => True) Z6h S50.sub rfl rfl rfl rfl rfl ?_ ?_ ?_
   ·intro i v w h w2 h2 hΦ hst
    match i, hΦ with
    | 0, hΦ | 1, hΦ | 2, hΦ | 3, hΦ | 4, hΦ | 5, hΦ | 6, hΦ | 7, hΦ => exact hΦ
    | i + 8, _ => exact trivial
   ·refine ⟨?_, ?_, ?_, ?_, ?_, ?_, ?_, ?_, trivial⟩
    ·intro a w54 h55 s56 hat hF
     have ob57 := (ob51.step0 s56)
     exact Za hat rfl (Zb rfl Z3y (OB.cell ob57 (j := 0) rfl)) s56.sub (by exact rfl)
    ·intro a w54 h55 s56 hat hF
     exact Za (Z7 hat (hF 0 23 rfl rfl)) rfl (Zp rfl) s56.sub (by exact rfl)
    ·intro a w54 h55 s56 hat hF
     exact Za (Z7 hat (hF 1 24 rfl rfl)) rfl (Z1 rfl Z1v) s56.sub (by exact rfl)
    ·intro a w54 h55 s56 hat hF
     have ob58 := (ob52.step0 s56)
     exact Za (Z7 hat (hF 2 25 rfl rfl)) rfl (Zb rfl Z32 (OB.cell ob58 (j := 0) rfl)) s56.sub (by exact rfl)
    ·intro a w54 h55 s56 hat hF
     have ob59 := (ob51.step0 s56)
     exact Za hat rfl (Zb rfl Z3y (OB.cell ob59 (j := 0) rfl)) s56.sub (by exact rfl)
    ·intro a w54 h55 s56 hat hF
     exact Za (Z7 hat (hF 4 27 rfl rfl)) rfl (Zp rfl) s56.sub (by exact rfl)
    ·intro a w54 h55 s56 hat hF
     exact Za (Z7 hat (hF 5 28 rfl rfl)) rfl (Z1 rfl Z0q) s56.sub (by exact rfl)
    intro a w54 h55 s56 hat hF
    have ob60 := (ob52.step0 s56)
    exact Za (Z7 hat (hF 6 29 rfl rfl)) rfl (Zb rfl Z04 (OB.cell ob60 (j := 1) rfl)) s56.sub (by exact rfl)
   intro a w54 h55 s56 hat hF
   obtain hv0 := hF 0 23 (by decide) rfl
   obtain hv1 := hF 1 24 (by decide) rfl
   obtain hv2 := hF 2 25 (by decide) rfl
   obtain hv3 := hF 3 26 (by decide) rfl
   obtain hv4 := hF 4 27 (by decide) rfl
   obtain hv5 := hF 5 28 (by decide) rfl
   obtain hv6 := hF 6 29 (by decide) rfl
   obtain hv7 := hF 7 30 (by decide) rfl
   refine Zdh [(30, vi x29), (29, pt b5 1), (28, pt b5 0), (27, pt b5 0), (26, .string x7), (25, pt b5 0), (24, pt b5 0), (23, pt b5 0), (0, .func (.yield l1) #[] #[]), (1, pt b3 0), (3, .func (.func 67) #[pt b5 0] #[])] (Z7 (Z7 (Z7 (Z7 (Z7 (Z7 (Z7 (Z7 hat hv0) hv1) hv2) hv3) hv4) hv5) hv6) hv7) ?_
   have S61 := S50.trans0 s56
   obtain ⟨c62, hc63, HF⟩ := Z5 HF
   refine Wv rfl (Z73 rfl rfl Z00 hc63) <| Wa rfl rfl <| Z6 <| Z4 <| Z0r <| Zc <| Z51 (m := 8) [(0, .func (.yield l1) #[] #[]), (1, pt b3 0), (3, .func (.func 67) #[pt b5 0] #[]), (4, .int .u8 c62)] [0, 1, 3, 4] rfl (fun i v w h => match i with | 0 => v = pt b5 0 | 1 => v = pt b5 0 | 2 => v = pt b5 0 | 3 => v = .string x7 | 4 => v = pt b5 0 | 5 => v = pt b5 0 | 6 => v = pt b5 1 | 7 => v = vi x29 | _ => True) Z6h S61.sub rfl rfl rfl rfl rfl ?_ ?_ ?_
   ·intro i v w h w2 h2 hΦ hst
    match i, hΦ with
    | 0, hΦ | 1, hΦ | 2, hΦ | 3, hΦ | 4, hΦ | 5, hΦ | 6, hΦ | 7, hΦ => exact hΦ
    | i + 8, _ => exact trivial
   ·refine ⟨?_, ?_, ?_, ?_, ?_, ?_, ?_, ?_, trivial⟩
    ·intro a w64 h65 s66 hat hF
     have ob67 := ((ob51.step0 s56).step0 s66)
     exact Za hat rfl (Zb rfl Z3y (OB.cell ob67 (j := 0) rfl)) s66.sub (by exact rfl)
    ·intro a w64 h65 s66 hat hF
     exact Za (Z7 hat (hF 0 33 rfl rfl)) rfl (Zp rfl) s66.sub (by exact rfl)
    ·intro a w64 h65 s66 hat hF
     exact Za (Z7 hat (hF 1 34 rfl rfl)) rfl (Z1 rfl Z1v) s66.sub (by exact rfl)
    ·intro a w64 h65 s66 hat hF
     have ob68 := ((ob52.step0 s56).step0 s66)
     exact Za (Z7 hat (hF 2 35 rfl rfl)) rfl (Zb rfl Z32 (OB.cell ob68 (j := 0) rfl)) s66.sub (by exact rfl)
    ·intro a w64 h65 s66 hat hF
     have ob69 := ((ob51.step0 s56).step0 s66)
     exact Za hat rfl (Zb rfl Z3y (OB.cell ob69 (j := 0) rfl)) s66.sub (by exact rfl)
    ·intro a w64 h65 s66 hat hF
     exact Za (Z7 hat (hF 4 37 rfl rfl)) rfl (Zp rfl) s66.sub (by exact rfl)
    ·intro a w64 h65 s66 hat hF
     exact Za (Z7 hat (hF 5 38 rfl rfl)) rfl (Z1 rfl Z0q) s66.sub (by exact rfl)
    intro a w64 h65 s66 hat hF
    have ob70 := ((ob52.step0 s56).step0 s66)
    exact Za (Z7 hat (hF 6 39 rfl rfl)) rfl (Zb rfl Z04 (OB.cell ob70 (j := 1) rfl)) s66.sub (by exact rfl)
   intro a w64 h65 s66 hat hF
   obtain hv0 := hF 0 33 (by decide) rfl
   obtain hv1 := hF 1 34 (by decide) rfl
   obtain hv2 := hF 2 35 (by decide) rfl
   obtain hv3 := hF 3 36 (by decide) rfl
   obtain hv4 := hF 4 37 (by decide) rfl
   obtain hv5 := hF 5 38 (by decide) rfl
   obtain hv6 := hF 6 39 (by decide) rfl
   obtain hv7 := hF 7 40 (by decide) rfl
   refine Zdh [(40, vi x29), (39, pt b5 1), (38, pt b5 0), (37, pt b5 0), (36, .string x7), (35, pt b5 0), (34, pt b5 0), (33, pt b5 0), (0, .func (.yield l1) #[] #[]), (1, pt b3 0), (3, .func (.func 67) #[pt b5 0] #[]), (4, .int .u8 c62)] (Z7 (Z7 (Z7 (Z7 (Z7 (Z7 (Z7 (Z7 hat hv0) hv1) hv2) hv3) hv4) hv5) hv6) hv7) ?_
   have S71 := S61.trans0 s66
   obtain ⟨t72, ht73, HF⟩ := Z5 HF
   refine Wv rfl (Zhr rfl rfl Z00 ht73) ?_
   obtain ⟨r74, hr75, HF⟩ := Z5 HF
   refine Wc rfl (Zd (vs := [.string t72, .string b'72]) rfl t_ent_68) (Ze1 _ hr75 S71.sub) ?_
   have ob80 := ((ob51.step0 s56).step0 s66)
   have ob81 := ((ob52.step0 s56).step0 s66)
   have hJ82 := (hYst _ _ _ _ _ _ (hYst _ _ _ _ _ _ ob53 s56 Z6l) s66 Z6l)
   rintro _ w77 ⟨h78, s79, rfl⟩
   have S83 := S71.trans0 s79
   refine Wa rfl rfl <| Z6 <| Z4 <| Z15 HF rfl (fun HF => ?_) (fun HF => ?_)
   ·refine Z0 ?_
    have ob85 := (ob80.step0 s79)
    refine Wv rfl (Zb rfl Z3y (OB.cell ob85 (j := 0) rfl)) <| Wv rfl (Z56 (us := [pt b5 0]) (vs := []) rfl rfl) <| Wa rfl rfl <| Z6 <| Zy <| Z4 <| Zc <| Z0 <| Wm rfl rfl ?_
    have ob86 := (ob81.step0 s79)
    obtain ⟨r87, hr88, HF⟩ := Z5 HF
    refine Wc rfl (Z9y (us := [pt b5 0]) (vs := []) (caps := []) rfl rfl t_ent_69) (ok_lexis_scanner_time _ hr88 S83.sub ob86) ?_
    have hJ95 := (hYst _ _ _ _ _ _ hJ82 s79 Z6l)
    rintro _ w90 ⟨h91, s92, _, _, rfl, ⟨cs93, rfl, r94⟩, rfl⟩
    have S96 := S83.trans0 s92
    refine Wm rfl rfl <| Wv rfl (Z0a rfl rfl) <| Wv rfl (Z0a rfl rfl) ?_
    have ob97 := (ob85.step0 s92)
    have ob98 := (ob86.step0 s92)
    have hJ99 := (hYst _ _ _ _ _ _ hJ95 s92 Z6l)
    refine Z19 (zs := [vi 0, .string Z1e, vi 0]) rfl rfl Z64 rfl S96.sub (fun w100 b101 hb102 s103 ob104 => ?_)
    have ne105 : b3 ≠ b101 := ob97.ne_new hb102
    have ne106 : b5 ≠ b101 := ob98.ne_new hb102
    have g107 : w0.heap.size ≤ b101 := by rw [hb102]; exact S96.size
    have S108 := S96.trans0 s103
    obtain rfl := Z67.1 (Rp.mono (s103.le) r94)
    refine Zr (vs := [vi r87.1.kind, .string r87.1.text, vi r87.1.pos]) rfl rfl rfl rfl Z1q (Z3 rfl (Z3 rfl (Z3 rfl Zx))) ob104 S108.sub (by simp) (ds := [vi r87.1.kind, .string r87.1.text, vi r87.1.pos]) rfl (fun w109 s110 ob111 => ?_)
    have S112 := S108.trans1 s110 (.inr g107)
    refine Wa rfl rfl <| Z6 <| Z4 <| Zc <| Z0 ?_
    have ob113 := ((ob97.step0 s103).step1 s110 ne105)
    refine Wv rfl (Zb rfl Z3y (OB.cell ob113 (j := 0) rfl)) <| Wv rfl (Zp rfl) <| Wv rfl (Z1 rfl Z0q) ?_
    have ob114 := ((ob98.step0 s103).step1 s110 ne106)
    refine Wv rfl (Zb rfl Z04 (OB.cell ob114 (j := 1) rfl)) <| Wv rfl (Z1 rfl Ze2) <| Zr (vs := [vi x29]) rfl rfl rfl rfl Z1s (Z3 rfl Zx) ob111 S112.sub (by simp) (ds := [vi r87.1.kind, .string r87.1.text, vi x29]) rfl (fun w115 s116 ob117 => ?_)
    have S118 := S112.trans1 s116 (.inr g107)
    refine Z6 <| Z4 <| Z09 (fun E w149 => ∃ (h148 : Hp) (x154 : YS), Za8 j33 (Z03 j33) x7 x29 r87 x154 = some r ∧ E = [(0, .func (.yield l1) #[] #[]), (1, pt b3 0), (6, vi r87.2)] ∧ Stp ([b5] ++ MY) w0 h0 w149 h148 ∧ Hle h91 h148 ∧ OB w149 h148 b3 T4 [pt b5 0] ∧ OB w149 h148 b5 T6 [.string x7, vi x29] ∧ J x154 w149 h148) ?_ ?_
    ·rintro E w149 ⟨h148, x154, HF, rfl, S151, le150, ob152, ob153, ob155⟩
     refine Z0 <| Wv rfl (Zb rfl Z3y (OB.cell ob152 (j := 0) rfl)) <| Wv rfl (Zp rfl) <| Wv rfl (Z1 rfl Z0q) <| Wv rfl (Zb rfl Z04 (OB.cell ob153 (j := 1) rfl)) <| Wm rfl rfl <| Wv rfl (Z3e rfl rfl) <| Wv rfl (Zp rfl) <| Wv rfl (Z1 rfl Z0q) <| Zr (vs := [vi (IntKind.i64.wrap (x29 + r87.2))]) rfl rfl rfl rfl Z1s (Z3 rfl Zx) ob153 S151.sub (by simp) (ds := [.string x7, vi (IntKind.i64.wrap (x29 + r87.2))]) rfl (fun w156 s157 ob158 => ?_)
     have S159 := S151.trans1 s157 (.inl (by simp))
     refine Z6 <| Zy <| Z4 <| Z0 ?_
     have ob160 := (ob152.step1 s157 ne11)
     refine Wv rfl (Zb rfl Z3y (OB.cell ob160 (j := 0) rfl)) ?_
     obtain ⟨r161, hr162, HF⟩ := Z5 HF
     refine Wc rfl (Zd (vs := [pt b5 0]) rfl t_ent_66) (Z3v _ hr162 S159.sub ob158) ?_
     have hJ167 := (hYst _ _ _ _ _ _ ob155 s157 (Z9g ne13 ob153 Z6l))
     rintro v163 w164 ⟨h165, s166, rfl, ob168⟩
     have S169 := S159.trans s166 (Zl (.inl (by simp)) Zt)
     refine Z6 ?_
     have ob542 := (ob160.step1 s166 ne11)
     have hJ543 := (hYst _ _ _ _ _ _ hJ167 s166 (Z9g ne13 ob158 Z6l))
     refine Z2p <| Z99 [0, 1] [(0, .func (.yield l1) #[] #[]), (1, pt b3 0)] rfl ?_
     exact IHL34 j33 (Nat.le_refl _) _ _ ⟨h165, r161, x154, HF, rfl, S169, (le26).trans ((le49).trans ((s56.le).trans ((s66.le).trans ((s79.le).trans ((s92.le).trans ((s103.le).trans ((s110.le).trans ((s116.le).trans ((le150).trans ((s157.le).trans s166.le)))))))))), ob542, ob168, hJ543⟩
    intro J170
    refine Z09 (fun E w134 => ∃ (h133 : Hp) (x137 : Bool) (x140 : YS), Z6v j33 (Z03 j33) x7 x29 r87 x137 x140 = some r ∧ E = [(0, .func (.yield l1) #[] #[]), (1, pt b3 0), (6, vi r87.2), (78, .bool x137)] ∧ Stp ([b5] ++ MY) w0 h0 w134 h133 ∧ Hle h91 h133 ∧ OB w134 h133 b3 T4 [pt b5 0] ∧ OB w134 h133 b5 T6 [.string x7, vi x29] ∧ J x140 w134 h133) ?_ ?_
    ·rintro E w134 ⟨h133, x137, x140, HF, rfl, S136, le135, ob138, ob139, ob141⟩
     refine Z15 HF rfl (fun HF => ?_) (fun HF => ?_)
     ·refine Z0b <| Zv <| Z0k <| Zv <| Zv <| Z0k <| WQ.ret0 rfl ?_
      obtain rfl := Option.some.inj HF
      exact ⟨_, rfl, h133, S136, rfl, ob139, ob141⟩
     refine Zq <| Z01 [0, 1, 6] _ rfl ?_
     exact J170 ⟨h133, x140, HF, rfl, S136, le135, ob138, ob139, ob141⟩
    intro J143
    refine WC.regionI <| WI.val (fun _ => trivial) rfl rfl rfl (fun c h => by cases h) (Z0t rfl) <| WI.val (fun _ => trivial) rfl rfl rfl (fun c h => by cases h) (Z2t (cs := [vi r87.1.kind, .string r87.1.text, vi x29]) rfl Z8c Z1q (OB.cells ob117 0 rfl)) <| WI.val (fun _ => trivial) rfl rfl rfl (fun c h => by cases h) (Z0t rfl) ?_
    have hJ119 := (hYst _ _ _ _ _ _ (hYst _ _ _ _ _ _ (hYst _ _ _ _ _ _ hJ99 s103 Z6l) s110 (Z9g (ny_new hMY g107) ob104 Z6l)) s116 (Z9g (ny_new hMY g107) ob111 Z6l))
    have ob129 := (ob113.step1 s116 ne105)
    have ob130 := (ob114.step1 s116 ne106)
    obtain ⟨r120, hr121, HF⟩ := Z5 HF
    refine WI.yield (vs := [.agg #[vi r87.1.kind, .string r87.1.text, vi x29], vi r87.2]) rfl rfl rfl rfl (hY _ _ _ _ _ _ _ hr121 hJ119 S118.size S118.sub (Z67.2 rfl)) ?_
    rintro _ w122 ⟨rfl, h123, M124, hJ125, s126, hM127, hOB128⟩
    have S131 := S118.trans s126 (fun i hi => (hM127 i hi).imp (fun q => List.mem_append_right _ q) id)
    refine WI.val (fun _ => trivial) rfl rfl rfl (fun c h => by cases h) (Z30 rfl) <| WI.val (fun _ => trivial) rfl rfl rfl (fun c h => by cases h) (Z0t rfl) <| WI.split 75 (b := !r120.1) rfl (fun hb132 => ?_) (fun hb132 => ?_)
    ·replace HF := bif_t hb132 HF
     refine WI.pass (fun _ => trivial) rfl rfl rfl <| WI.pass (fun _ => trivial) rfl rfl rfl <| WI.val (fun _ => trivial) rfl rfl rfl (fun c h => by cases h) (Zj rfl rfl) <| WI.nil ?_
     have ob144 := (ob129.step s126 (hOB128 _ _ _ ob129 ne12))
     have ob145 := (ob130.step s126 (hOB128 _ _ _ ob130 ne13))
     refine Z01 [0, 1, 6, 78] _ rfl ?_
     exact J143 ⟨h123, true, r120.2, HF, rfl, S131, s126.le, ob144, ob145, hJ125⟩
    replace HF := bif_f hb132 HF
    refine WI.val (fun _ => trivial) rfl rfl rfl (fun c h => by cases h) (Z0t rfl) <| WI.val (fun _ => trivial) rfl rfl rfl (fun c h => by cases h) (Z1g rfl rfl) <| WI.val (fun _ => trivial) rfl rfl rfl (fun c h => by cases h) (Zi rfl rfl) <| WI.nil ?_
    have ob146 := (ob129.step s126 (hOB128 _ _ _ ob129 ne12))
    have ob147 := (ob130.step s126 (hOB128 _ _ _ ob130 ne13))
    refine Z01 [0, 1, 6, 78] _ rfl ?_
    exact J143 ⟨h123, (r87.2 : Int) == 0, r120.2, HF, rfl, S131, s126.le, ob146, ob147, hJ125⟩
   refine Zc <| Z0 <| Wm rfl rfl ?_
   obtain ⟨r171, hr172, HF⟩ := Z5 HF
   refine Wc rfl (Zd (vs := [.int .u8 c62]) rfl t_ent_70) (Z9o _ hr172 S83.sub) ?_
   have ob177 := (ob80.step0 s79)
   have ob178 := (ob81.step0 s79)
   have hJ179 := (hYst _ _ _ _ _ _ hJ82 s79 Z6l)
   rintro _ w174 ⟨h175, s176, rfl⟩
   have S180 := S83.trans0 s176
   refine Wa rfl rfl <| Z6 <| Z4 <| Z15 HF rfl (fun HF => ?_) (fun HF => ?_)
   ·refine Z0 ?_
    have ob182 := (ob177.step0 s176)
    refine Wv rfl (Zb rfl Z3y (OB.cell ob182 (j := 0) rfl)) <| Wv rfl (Z56 (us := [pt b5 0]) (vs := []) rfl rfl) <| Wa rfl rfl <| Z6 <| Zy <| Z4 <| Zc <| Z0 <| Wm rfl rfl ?_
    have ob183 := (ob178.step0 s176)
    obtain ⟨r184, hr185, HF⟩ := Z5 HF
    refine Wc rfl (Z9y (us := [pt b5 0]) (vs := []) (caps := []) rfl rfl t_ent_71) (ok_lexis_scanner_word _ hr185 S180.sub ob183) ?_
    have hJ192 := (hYst _ _ _ _ _ _ hJ179 s176 Z6l)
    rintro _ w187 ⟨h188, s189, _, _, rfl, ⟨cs190, rfl, r191⟩, rfl⟩
    have S193 := S180.trans0 s189
    refine Wm rfl rfl <| Wv rfl (Z0a rfl rfl) <| Wv rfl (Z0a rfl rfl) ?_
    have ob194 := (ob182.step0 s189)
    have ob195 := (ob183.step0 s189)
    have hJ196 := (hYst _ _ _ _ _ _ hJ192 s189 Z6l)
    refine Z19 (zs := [vi 0, .string Z1e, vi 0]) rfl rfl Z64 rfl S193.sub (fun w197 b198 hb199 s200 ob201 => ?_)
    have ne202 : b3 ≠ b198 := ob194.ne_new hb199
    have ne203 : b5 ≠ b198 := ob195.ne_new hb199
    have g204 : w0.heap.size ≤ b198 := by rw [hb199]; exact S193.size
    have S205 := S193.trans0 s200
    obtain rfl := Z67.1 (Rp.mono (s200.le) r191)
    refine Zr (vs := [vi r184.1.kind, .string r184.1.text, vi r184.1.pos]) rfl rfl rfl rfl Z1q (Z3 rfl (Z3 rfl (Z3 rfl Zx))) ob201 S205.sub (by simp) (ds := [vi r184.1.kind, .string r184.1.text, vi r184.1.pos]) rfl (fun w206 s207 ob208 => ?_)
    have S209 := S205.trans1 s207 (.inr g204)
    refine Wa rfl rfl <| Z6 <| Z4 <| Zc <| Z0 ?_
    have ob210 := ((ob194.step0 s200).step1 s207 ne202)
    refine Wv rfl (Zb rfl Z3y (OB.cell ob210 (j := 0) rfl)) <| Wv rfl (Zp rfl) <| Wv rfl (Z1 rfl Z0q) ?_
    have ob211 := ((ob195.step0 s200).step1 s207 ne203)
    refine Wv rfl (Zb rfl Z04 (OB.cell ob211 (j := 1) rfl)) <| Wv rfl (Z1 rfl Ze2) <| Zr (vs := [vi x29]) rfl rfl rfl rfl Z1s (Z3 rfl Zx) ob208 S209.sub (by simp) (ds := [vi r184.1.kind, .string r184.1.text, vi x29]) rfl (fun w212 s213 ob214 => ?_)
    have S215 := S209.trans1 s213 (.inr g204)
    refine Z6 <| Z4 <| Z09 (fun E w246 => ∃ (h245 : Hp) (x251 : YS), Za6 j33 (Z03 j33) x7 x29 r184 x251 = some r ∧ E = [(0, .func (.yield l1) #[] #[]), (1, pt b3 0), (6, vi r184.2)] ∧ Stp ([b5] ++ MY) w0 h0 w246 h245 ∧ Hle h188 h245 ∧ OB w246 h245 b3 T4 [pt b5 0] ∧ OB w246 h245 b5 T6 [.string x7, vi x29] ∧ J x251 w246 h245) ?_ ?_
    ·rintro E w246 ⟨h245, x251, HF, rfl, S248, le247, ob249, ob250, ob252⟩
     refine Z0 <| Wv rfl (Zb rfl Z3y (OB.cell ob249 (j := 0) rfl)) <| Wv rfl (Zp rfl) <| Wv rfl (Z1 rfl Z0q) <| Wv rfl (Zb rfl Z04 (OB.cell ob250 (j := 1) rfl)) <| Wm rfl rfl <| Wv rfl (Z3e rfl rfl) <| Wv rfl (Zp rfl) <| Wv rfl (Z1 rfl Z0q) <| Zr (vs := [vi (IntKind.i64.wrap (x29 + r184.2))]) rfl rfl rfl rfl Z1s (Z3 rfl Zx) ob250 S248.sub (by simp) (ds := [.string x7, vi (IntKind.i64.wrap (x29 + r184.2))]) rfl (fun w253 s254 ob255 => ?_)
     have S256 := S248.trans1 s254 (.inl (by simp))
     refine Z6 <| Zy <| Z4 <| Z0 ?_
     have ob257 := (ob249.step1 s254 ne11)
     refine Wv rfl (Zb rfl Z3y (OB.cell ob257 (j := 0) rfl)) ?_
     obtain ⟨r258, hr259, HF⟩ := Z5 HF
     refine Wc rfl (Zd (vs := [pt b5 0]) rfl t_ent_66) (Z3v _ hr259 S256.sub ob255) ?_
     have hJ264 := (hYst _ _ _ _ _ _ ob252 s254 (Z9g ne13 ob250 Z6l))
     rintro v260 w261 ⟨h262, s263, rfl, ob265⟩
     have S266 := S256.trans s263 (Zl (.inl (by simp)) Zt)
     refine Z6 ?_
     have ob544 := (ob257.step1 s263 ne11)
     have hJ545 := (hYst _ _ _ _ _ _ hJ264 s263 (Z9g ne13 ob255 Z6l))
     refine Z2p <| Z99 [0, 1] [(0, .func (.yield l1) #[] #[]), (1, pt b3 0)] rfl ?_
     exact IHL34 j33 (Nat.le_refl _) _ _ ⟨h262, r258, x251, HF, rfl, S266, (le26).trans ((le49).trans ((s56.le).trans ((s66.le).trans ((s79.le).trans ((s176.le).trans ((s189.le).trans ((s200.le).trans ((s207.le).trans ((s213.le).trans ((le247).trans ((s254.le).trans s263.le))))))))))), ob544, ob265, hJ545⟩
    intro J267
    refine Z09 (fun E w231 => ∃ (h230 : Hp) (x234 : Bool) (x237 : YS), Z6s j33 (Z03 j33) x7 x29 r184 x234 x237 = some r ∧ E = [(0, .func (.yield l1) #[] #[]), (1, pt b3 0), (6, vi r184.2), (78, .bool x234)] ∧ Stp ([b5] ++ MY) w0 h0 w231 h230 ∧ Hle h188 h230 ∧ OB w231 h230 b3 T4 [pt b5 0] ∧ OB w231 h230 b5 T6 [.string x7, vi x29] ∧ J x237 w231 h230) ?_ ?_
    ·rintro E w231 ⟨h230, x234, x237, HF, rfl, S233, le232, ob235, ob236, ob238⟩
     refine Z15 HF rfl (fun HF => ?_) (fun HF => ?_)
     ·refine Z0b <| Zv <| Z0k <| Zv <| Zv <| Z0k <| WQ.ret0 rfl ?_
      obtain rfl := Option.some.inj HF
      exact ⟨_, rfl, h230, S233, rfl, ob236, ob238⟩
     refine Zq <| Z01 [0, 1, 6] _ rfl ?_
     exact J267 ⟨h230, x237, HF, rfl, S233, le232, ob235, ob236, ob238⟩
    intro J240
    refine WC.regionI <| WI.val (fun _ => trivial) rfl rfl rfl (fun c h => by cases h) (Z0t rfl) <| WI.val (fun _ => trivial) rfl rfl rfl (fun c h => by cases h) (Z2t (cs := [vi r184.1.kind, .string r184.1.text, vi x29]) rfl Z8c Z1q (OB.cells ob214 0 rfl)) <| WI.val (fun _ => trivial) rfl rfl rfl (fun c h => by cases h) (Z0t rfl) ?_
    have hJ216 := (hYst _ _ _ _ _ _ (hYst _ _ _ _ _ _ (hYst _ _ _ _ _ _ hJ196 s200 Z6l) s207 (Z9g (ny_new hMY g204) ob201 Z6l)) s213 (Z9g (ny_new hMY g204) ob208 Z6l))
    have ob226 := (ob210.step1 s213 ne202)
    have ob227 := (ob211.step1 s213 ne203)
    obtain ⟨r217, hr218, HF⟩ := Z5 HF
    refine WI.yield (vs := [.agg #[vi r184.1.kind, .string r184.1.text, vi x29], vi r184.2]) rfl rfl rfl rfl (hY _ _ _ _ _ _ _ hr218 hJ216 S215.size S215.sub (Z67.2 rfl)) ?_
    rintro _ w219 ⟨rfl, h220, M221, hJ222, s223, hM224, hOB225⟩
    have S228 := S215.trans s223 (fun i hi => (hM224 i hi).imp (fun q => List.mem_append_right _ q) id)
    refine WI.val (fun _ => trivial) rfl rfl rfl (fun c h => by cases h) (Z30 rfl) <| WI.val (fun _ => trivial) rfl rfl rfl (fun c h => by cases h) (Z0t rfl) <| WI.split 75 (b := !r217.1) rfl (fun hb229 => ?_) (fun hb229 => ?_)
    ·replace HF := bif_t hb229 HF
     refine WI.pass (fun _ => trivial) rfl rfl rfl <| WI.pass (fun _ => trivial) rfl rfl rfl <| WI.val (fun _ => trivial) rfl rfl rfl (fun c h => by cases h) (Zj rfl rfl) <| WI.nil ?_
     have ob241 := (ob226.step s223 (hOB225 _ _ _ ob226 ne12))
     have ob242 := (ob227.step s223 (hOB225 _ _ _ ob227 ne13))
     refine Z01 [0, 1, 6, 78] _ rfl ?_
     exact J240 ⟨h220, true, r217.2, HF, rfl, S228, s223.le, ob241, ob242, hJ222⟩
    replace HF := bif_f hb229 HF
    refine WI.val (fun _ => trivial) rfl rfl rfl (fun c h => by cases h) (Z0t rfl) <| WI.val (fun _ => trivial) rfl rfl rfl (fun c h => by cases h) (Z1g rfl rfl) <| WI.val (fun _ => trivial) rfl rfl rfl (fun c h => by cases h) (Zi rfl rfl) <| WI.nil ?_
    have ob243 := (ob226.step s223 (hOB225 _ _ _ ob226 ne12))
    have ob244 := (ob227.step s223 (hOB225 _ _ _ ob227 ne13))
    refine Z01 [0, 1, 6, 78] _ rfl ?_
    exact J240 ⟨h220, (r184.2 : Int) == 0, r217.2, HF, rfl, S228, s223.le, ob243, ob244, hJ222⟩
   refine Zc <| Z0 <| Wm rfl rfl ?_
   obtain ⟨r268, hr269, HF⟩ := Z5 HF
   refine Wc rfl (Zd (vs := [.int .u8 c62]) rfl t_ent_72) (Zai _ hr269 S180.sub) ?_
   have ob274 := (ob177.step0 s176)
   have ob275 := (ob178.step0 s176)
   have hJ276 := (hYst _ _ _ _ _ _ hJ179 s176 Z6l)
   rintro _ w271 ⟨h272, s273, rfl⟩
   have S277 := S180.trans0 s273
   refine Wa rfl rfl <| Z6 <| Z4 <| Z15 HF rfl (fun HF => ?_) (fun HF => ?_)
   ·refine Z0 ?_
    have ob279 := (ob274.step0 s273)
    refine Wv rfl (Zb rfl Z3y (OB.cell ob279 (j := 0) rfl)) <| Wv rfl (Z56 (us := [pt b5 0]) (vs := []) rfl rfl) <| Wa rfl rfl <| Z6 <| Zy <| Z4 <| Zc <| Z0 <| Wm rfl rfl ?_
    have ob280 := (ob275.step0 s273)
    obtain ⟨r281, hr282, HF⟩ := Z5 HF
    refine Wc rfl (Z9y (us := [pt b5 0]) (vs := []) (caps := []) rfl rfl t_ent_73) (Zgq _ hr282 S277.sub ob280) ?_
    have hJ289 := (hYst _ _ _ _ _ _ hJ276 s273 Z6l)
    rintro _ w284 ⟨h285, s286, _, _, rfl, ⟨cs287, rfl, r288⟩, rfl⟩
    have S290 := S277.trans0 s286
    refine Wm rfl rfl <| Wv rfl (Z0a rfl rfl) <| Wv rfl (Z0a rfl rfl) ?_
    have ob291 := (ob279.step0 s286)
    have ob292 := (ob280.step0 s286)
    have hJ293 := (hYst _ _ _ _ _ _ hJ289 s286 Z6l)
    refine Z19 (zs := [vi 0, .string Z1e, vi 0]) rfl rfl Z64 rfl S290.sub (fun w294 b295 hb296 s297 ob298 => ?_)
    have ne299 : b3 ≠ b295 := ob291.ne_new hb296
    have ne300 : b5 ≠ b295 := ob292.ne_new hb296
    have g301 : w0.heap.size ≤ b295 := by rw [hb296]; exact S290.size
    have S302 := S290.trans0 s297
    obtain rfl := Z67.1 (Rp.mono (s297.le) r288)
    refine Zr (vs := [vi r281.1.kind, .string r281.1.text, vi r281.1.pos]) rfl rfl rfl rfl Z1q (Z3 rfl (Z3 rfl (Z3 rfl Zx))) ob298 S302.sub (by simp) (ds := [vi r281.1.kind, .string r281.1.text, vi r281.1.pos]) rfl (fun w303 s304 ob305 => ?_)
    have S306 := S302.trans1 s304 (.inr g301)
    refine Wa rfl rfl <| Z6 <| Z4 <| Zc <| Z0 ?_
    have ob307 := ((ob291.step0 s297).step1 s304 ne299)
    refine Wv rfl (Zb rfl Z3y (OB.cell ob307 (j := 0) rfl)) <| Wv rfl (Zp rfl) <| Wv rfl (Z1 rfl Z0q) ?_
    have ob308 := ((ob292.step0 s297).step1 s304 ne300)
    refine Wv rfl (Zb rfl Z04 (OB.cell ob308 (j := 1) rfl)) <| Wv rfl (Z1 rfl Ze2) <| Zr (vs := [vi x29]) rfl rfl rfl rfl Z1s (Z3 rfl Zx) ob305 S306.sub (by simp) (ds := [vi r281.1.kind, .string r281.1.text, vi x29]) rfl (fun w309 s310 ob311 => ?_)
    have S312 := S306.trans1 s310 (.inr g301)
    refine Z6 <| Z4 <| Z09 (fun E w343 => ∃ (h342 : Hp) (x348 : YS), Za9 j33 (Z03 j33) x7 x29 r281 x348 = some r ∧ E = [(0, .func (.yield l1) #[] #[]), (1, pt b3 0), (6, vi r281.2)] ∧ Stp ([b5] ++ MY) w0 h0 w343 h342 ∧ Hle h285 h342 ∧ OB w343 h342 b3 T4 [pt b5 0] ∧ OB w343 h342 b5 T6 [.string x7, vi x29] ∧ J x348 w343 h342) ?_ ?_
    ·rintro E w343 ⟨h342, x348, HF, rfl, S345, le344, ob346, ob347, ob349⟩
     refine Z0 <| Wv rfl (Zb rfl Z3y (OB.cell ob346 (j := 0) rfl)) <| Wv rfl (Zp rfl) <| Wv rfl (Z1 rfl Z0q) <| Wv rfl (Zb rfl Z04 (OB.cell ob347 (j := 1) rfl)) <| Wm rfl rfl <| Wv rfl (Z3e rfl rfl) <| Wv rfl (Zp rfl) <| Wv rfl (Z1 rfl Z0q) <| Zr (vs := [vi (IntKind.i64.wrap (x29 + r281.2))]) rfl rfl rfl rfl Z1s (Z3 rfl Zx) ob347 S345.sub (by simp) (ds := [.string x7, vi (IntKind.i64.wrap (x29 + r281.2))]) rfl (fun w350 s351 ob352 => ?_)
     have S353 := S345.trans1 s351 (.inl (by simp))
     refine Z6 <| Zy <| Z4 <| Z0 ?_
     have ob354 := (ob346.step1 s351 ne11)
     refine Wv rfl (Zb rfl Z3y (OB.cell ob354 (j := 0) rfl)) ?_
     obtain ⟨r355, hr356, HF⟩ := Z5 HF
     refine Wc rfl (Zd (vs := [pt b5 0]) rfl t_ent_66) (Z3v _ hr356 S353.sub ob352) ?_
     have hJ361 := (hYst _ _ _ _ _ _ ob349 s351 (Z9g ne13 ob347 Z6l))
     rintro v357 w358 ⟨h359, s360, rfl, ob362⟩
     have S363 := S353.trans s360 (Zl (.inl (by simp)) Zt)
     refine Z6 ?_
     have ob546 := (ob354.step1 s360 ne11)
     have hJ547 := (hYst _ _ _ _ _ _ hJ361 s360 (Z9g ne13 ob352 Z6l))
     refine Z2p <| Z99 [0, 1] [(0, .func (.yield l1) #[] #[]), (1, pt b3 0)] rfl ?_
     exact IHL34 j33 (Nat.le_refl _) _ _ ⟨h359, r355, x348, HF, rfl, S363, (le26).trans ((le49).trans ((s56.le).trans ((s66.le).trans ((s79.le).trans ((s176.le).trans ((s273.le).trans ((s286.le).trans ((s297.le).trans ((s304.le).trans ((s310.le).trans ((le344).trans ((s351.le).trans s360.le)))))))))))), ob546, ob362, hJ547⟩
    intro J364
    refine Z09 (fun E w328 => ∃ (h327 : Hp) (x331 : Bool) (x334 : YS), Z6x j33 (Z03 j33) x7 x29 r281 x331 x334 = some r ∧ E = [(0, .func (.yield l1) #[] #[]), (1, pt b3 0), (6, vi r281.2), (78, .bool x331)] ∧ Stp ([b5] ++ MY) w0 h0 w328 h327 ∧ Hle h285 h327 ∧ OB w328 h327 b3 T4 [pt b5 0] ∧ OB w328 h327 b5 T6 [.string x7, vi x29] ∧ J x334 w328 h327) ?_ ?_
    ·rintro E w328 ⟨h327, x331, x334, HF, rfl, S330, le329, ob332, ob333, ob335⟩
     refine Z15 HF rfl (fun HF => ?_) (fun HF => ?_)
     ·refine Z0b <| Zv <| Z0k <| Zv <| Zv <| Z0k <| WQ.ret0 rfl ?_
      obtain rfl := Option.some.inj HF
      exact ⟨_, rfl, h327, S330, rfl, ob333, ob335⟩
     refine Zq <| Z01 [0, 1, 6] _ rfl ?_
     exact J364 ⟨h327, x334, HF, rfl, S330, le329, ob332, ob333, ob335⟩
    intro J337
    refine WC.regionI <| WI.val (fun _ => trivial) rfl rfl rfl (fun c h => by cases h) (Z0t rfl) <| WI.val (fun _ => trivial) rfl rfl rfl (fun c h => by cases h) (Z2t (cs := [vi r281.1.kind, .string r281.1.text, vi x29]) rfl Z8c Z1q (OB.cells ob311 0 rfl)) <| WI.val (fun _ => trivial) rfl rfl rfl (fun c h => by cases h) (Z0t rfl) ?_
    have hJ313 := (hYst _ _ _ _ _ _ (hYst _ _ _ _ _ _ (hYst _ _ _ _ _ _ hJ293 s297 Z6l) s304 (Z9g (ny_new hMY g301) ob298 Z6l)) s310 (Z9g (ny_new hMY g301) ob305 Z6l))
    have ob323 := (ob307.step1 s310 ne299)
    have ob324 := (ob308.step1 s310 ne300)
    obtain ⟨r314, hr315, HF⟩ := Z5 HF
    refine WI.yield (vs := [.agg #[vi r281.1.kind, .string r281.1.text, vi x29], vi r281.2]) rfl rfl rfl rfl (hY _ _ _ _ _ _ _ hr315 hJ313 S312.size S312.sub (Z67.2 rfl)) ?_
    rintro _ w316 ⟨rfl, h317, M318, hJ319, s320, hM321, hOB322⟩
    have S325 := S312.trans s320 (fun i hi => (hM321 i hi).imp (fun q => List.mem_append_right _ q) id)
    refine WI.val (fun _ => trivial) rfl rfl rfl (fun c h => by cases h) (Z30 rfl) <| WI.val (fun _ => trivial) rfl rfl rfl (fun c h => by cases h) (Z0t rfl) <| WI.split 75 (b := !r314.1) rfl (fun hb326 => ?_) (fun hb326 => ?_)
    ·replace HF := bif_t hb326 HF
     refine WI.pass (fun _ => trivial) rfl rfl rfl <| WI.pass (fun _ => trivial) rfl rfl rfl <| WI.val (fun _ => trivial) rfl rfl rfl (fun c h => by cases h) (Zj rfl rfl) <| WI.nil ?_
     have ob338 := (ob323.step s320 (hOB322 _ _ _ ob323 ne12))
     have ob339 := (ob324.step s320 (hOB322 _ _ _ ob324 ne13))
     refine Z01 [0, 1, 6, 78] _ rfl ?_
     exact J337 ⟨h317, true, r314.2, HF, rfl, S325, s320.le, ob338, ob339, hJ319⟩
    replace HF := bif_f hb326 HF
    refine WI.val (fun _ => trivial) rfl rfl rfl (fun c h => by cases h) (Z0t rfl) <| WI.val (fun _ => trivial) rfl rfl rfl (fun c h => by cases h) (Z1g rfl rfl) <| WI.val (fun _ => trivial) rfl rfl rfl (fun c h => by cases h) (Zi rfl rfl) <| WI.nil ?_
    have ob340 := (ob323.step s320 (hOB322 _ _ _ ob323 ne12))
    have ob341 := (ob324.step s320 (hOB322 _ _ _ ob324 ne13))
    refine Z01 [0, 1, 6, 78] _ rfl ?_
    exact J337 ⟨h317, (r281.2 : Int) == 0, r314.2, HF, rfl, S325, s320.le, ob340, ob341, hJ319⟩
   refine Zc <| Z0 <| Wm rfl rfl <| Wv rfl (Z1g rfl rfl) <| Wa rfl rfl <| Z6 <| Z4 <| Z15 HF rfl (fun HF => ?_) (fun HF => ?_)
   ·refine Z0 ?_
    have ob366 := (ob274.step0 s273)
    refine Wv rfl (Zb rfl Z3y (OB.cell ob366 (j := 0) rfl)) <| Wv rfl (Z56 (us := [pt b5 0]) (vs := []) rfl rfl) <| Wa rfl rfl <| Z6 <| Zy <| Z4 <| Zc <| Z0 <| Wm rfl rfl ?_
    have ob367 := (ob275.step0 s273)
    obtain ⟨r368, hr369, HF⟩ := Z5 HF
    refine Wc rfl (Z9y (us := [pt b5 0]) (vs := []) (caps := []) rfl rfl t_ent_74) (Zgk _ hr369 S277.sub ob367) ?_
    have hJ376 := (hYst _ _ _ _ _ _ hJ276 s273 Z6l)
    rintro _ w371 ⟨h372, s373, _, _, rfl, ⟨cs374, rfl, r375⟩, rfl⟩
    have S377 := S277.trans0 s373
    refine Wm rfl rfl <| Wv rfl (Z0a rfl rfl) <| Wv rfl (Z0a rfl rfl) ?_
    have ob378 := (ob366.step0 s373)
    have ob379 := (ob367.step0 s373)
    have hJ380 := (hYst _ _ _ _ _ _ hJ376 s373 Z6l)
    refine Z19 (zs := [vi 0, .string Z1e, vi 0]) rfl rfl Z64 rfl S377.sub (fun w381 b382 hb383 s384 ob385 => ?_)
    have ne386 : b3 ≠ b382 := ob378.ne_new hb383
    have ne387 : b5 ≠ b382 := ob379.ne_new hb383
    have g388 : w0.heap.size ≤ b382 := by rw [hb383]; exact S377.size
    have S389 := S377.trans0 s384
    obtain rfl := Z67.1 (Rp.mono (s384.le) r375)
    refine Zr (vs := [vi r368.1.kind, .string r368.1.text, vi r368.1.pos]) rfl rfl rfl rfl Z1q (Z3 rfl (Z3 rfl (Z3 rfl Zx))) ob385 S389.sub (by simp) (ds := [vi r368.1.kind, .string r368.1.text, vi r368.1.pos]) rfl (fun w390 s391 ob392 => ?_)
    have S393 := S389.trans1 s391 (.inr g388)
    refine Wa rfl rfl <| Z6 <| Z4 <| Zc <| Z0 ?_
    have ob394 := ((ob378.step0 s384).step1 s391 ne386)
    refine Wv rfl (Zb rfl Z3y (OB.cell ob394 (j := 0) rfl)) <| Wv rfl (Zp rfl) <| Wv rfl (Z1 rfl Z0q) ?_
    have ob395 := ((ob379.step0 s384).step1 s391 ne387)
    refine Wv rfl (Zb rfl Z04 (OB.cell ob395 (j := 1) rfl)) <| Wv rfl (Z1 rfl Ze2) <| Zr (vs := [vi x29]) rfl rfl rfl rfl Z1s (Z3 rfl Zx) ob392 S393.sub (by simp) (ds := [vi r368.1.kind, .string r368.1.text, vi x29]) rfl (fun w396 s397 ob398 => ?_)
    have S399 := S393.trans1 s397 (.inr g388)
    refine Z6 <| Z4 <| Z09 (fun E w430 => ∃ (h429 : Hp) (x435 : YS), Z9h j33 (Z03 j33) x7 x29 r368 x435 = some r ∧ E = [(0, .func (.yield l1) #[] #[]), (1, pt b3 0), (6, vi r368.2)] ∧ Stp ([b5] ++ MY) w0 h0 w430 h429 ∧ Hle h372 h429 ∧ OB w430 h429 b3 T4 [pt b5 0] ∧ OB w430 h429 b5 T6 [.string x7, vi x29] ∧ J x435 w430 h429) ?_ ?_
    ·rintro E w430 ⟨h429, x435, HF, rfl, S432, le431, ob433, ob434, ob436⟩
     refine Z0 <| Wv rfl (Zb rfl Z3y (OB.cell ob433 (j := 0) rfl)) <| Wv rfl (Zp rfl) <| Wv rfl (Z1 rfl Z0q) <| Wv rfl (Zb rfl Z04 (OB.cell ob434 (j := 1) rfl)) <| Wm rfl rfl <| Wv rfl (Z3e rfl rfl) <| Wv rfl (Zp rfl) <| Wv rfl (Z1 rfl Z0q) <| Zr (vs := [vi (IntKind.i64.wrap (x29 + r368.2))]) rfl rfl rfl rfl Z1s (Z3 rfl Zx) ob434 S432.sub (by simp) (ds := [.string x7, vi (IntKind.i64.wrap (x29 + r368.2))]) rfl (fun w437 s438 ob439 => ?_)
     have S440 := S432.trans1 s438 (.inl (by simp))
     refine Z6 <| Zy <| Z4 <| Z0 ?_
     have ob441 := (ob433.step1 s438 ne11)
     refine Wv rfl (Zb rfl Z3y (OB.cell ob441 (j := 0) rfl)) ?_
     obtain ⟨r442, hr443, HF⟩ := Z5 HF
     refine Wc rfl (Zd (vs := [pt b5 0]) rfl t_ent_66) (Z3v _ hr443 S440.sub ob439) ?_
     have hJ448 := (hYst _ _ _ _ _ _ ob436 s438 (Z9g ne13 ob434 Z6l))
     rintro v444 w445 ⟨h446, s447, rfl, ob449⟩
     have S450 := S440.trans s447 (Zl (.inl (by simp)) Zt)
     refine Z6 ?_
     have ob548 := (ob441.step1 s447 ne11)
     have hJ549 := (hYst _ _ _ _ _ _ hJ448 s447 (Z9g ne13 ob439 Z6l))
     refine Z2p <| Z99 [0, 1] [(0, .func (.yield l1) #[] #[]), (1, pt b3 0)] rfl ?_
     exact IHL34 j33 (Nat.le_refl _) _ _ ⟨h446, r442, x435, HF, rfl, S450, (le26).trans ((le49).trans ((s56.le).trans ((s66.le).trans ((s79.le).trans ((s176.le).trans ((s273.le).trans ((s373.le).trans ((s384.le).trans ((s391.le).trans ((s397.le).trans ((le431).trans ((s438.le).trans s447.le)))))))))))), ob548, ob449, hJ549⟩
    intro J451
    refine Z09 (fun E w415 => ∃ (h414 : Hp) (x418 : Bool) (x421 : YS), Z6t j33 (Z03 j33) x7 x29 r368 x418 x421 = some r ∧ E = [(0, .func (.yield l1) #[] #[]), (1, pt b3 0), (6, vi r368.2), (78, .bool x418)] ∧ Stp ([b5] ++ MY) w0 h0 w415 h414 ∧ Hle h372 h414 ∧ OB w415 h414 b3 T4 [pt b5 0] ∧ OB w415 h414 b5 T6 [.string x7, vi x29] ∧ J x421 w415 h414) ?_ ?_
    ·rintro E w415 ⟨h414, x418, x421, HF, rfl, S417, le416, ob419, ob420, ob422⟩
     refine Z15 HF rfl (fun HF => ?_) (fun HF => ?_)
     ·refine Z0b <| Zv <| Z0k <| Zv <| Zv <| Z0k <| WQ.ret0 rfl ?_
      obtain rfl := Option.some.inj HF
      exact ⟨_, rfl, h414, S417, rfl, ob420, ob422⟩
     refine Zq <| Z01 [0, 1, 6] _ rfl ?_
     exact J451 ⟨h414, x421, HF, rfl, S417, le416, ob419, ob420, ob422⟩
    intro J424
    refine WC.regionI <| WI.val (fun _ => trivial) rfl rfl rfl (fun c h => by cases h) (Z0t rfl) <| WI.val (fun _ => trivial) rfl rfl rfl (fun c h => by cases h) (Z2t (cs := [vi r368.1.kind, .string r368.1.text, vi x29]) rfl Z8c Z1q (OB.cells ob398 0 rfl)) <| WI.val (fun _ => trivial) rfl rfl rfl (fun c h => by cases h) (Z0t rfl) ?_
    have hJ400 := (hYst _ _ _ _ _ _ (hYst _ _ _ _ _ _ (hYst _ _ _ _ _ _ hJ380 s384 Z6l) s391 (Z9g (ny_new hMY g388) ob385 Z6l)) s397 (Z9g (ny_new hMY g388) ob392 Z6l))
    have ob410 := (ob394.step1 s397 ne386)
    have ob411 := (ob395.step1 s397 ne387)
    obtain ⟨r401, hr402, HF⟩ := Z5 HF
    refine WI.yield (vs := [.agg #[vi r368.1.kind, .string r368.1.text, vi x29], vi r368.2]) rfl rfl rfl rfl (hY _ _ _ _ _ _ _ hr402 hJ400 S399.size S399.sub (Z67.2 rfl)) ?_
    rintro _ w403 ⟨rfl, h404, M405, hJ406, s407, hM408, hOB409⟩
    have S412 := S399.trans s407 (fun i hi => (hM408 i hi).imp (fun q => List.mem_append_right _ q) id)
    refine WI.val (fun _ => trivial) rfl rfl rfl (fun c h => by cases h) (Z30 rfl) <| WI.val (fun _ => trivial) rfl rfl rfl (fun c h => by cases h) (Z0t rfl) <| WI.split 75 (b := !r401.1) rfl (fun hb413 => ?_) (fun hb413 => ?_)
    ·replace HF := bif_t hb413 HF
     refine WI.pass (fun _ => trivial) rfl rfl rfl <| WI.pass (fun _ => trivial) rfl rfl rfl <| WI.val (fun _ => trivial) rfl rfl rfl (fun c h => by cases h) (Zj rfl rfl) <| WI.nil ?_
     have ob425 := (ob410.step s407 (hOB409 _ _ _ ob410 ne12))
     have ob426 := (ob411.step s407 (hOB409 _ _ _ ob411 ne13))
     refine Z01 [0, 1, 6, 78] _ rfl ?_
     exact J424 ⟨h404, true, r401.2, HF, rfl, S412, s407.le, ob425, ob426, hJ406⟩
    replace HF := bif_f hb413 HF
    refine WI.val (fun _ => trivial) rfl rfl rfl (fun c h => by cases h) (Z0t rfl) <| WI.val (fun _ => trivial) rfl rfl rfl (fun c h => by cases h) (Z1g rfl rfl) <| WI.val (fun _ => trivial) rfl rfl rfl (fun c h => by cases h) (Zi rfl rfl) <| WI.nil ?_
    have ob427 := (ob410.step s407 (hOB409 _ _ _ ob410 ne12))
    have ob428 := (ob411.step s407 (hOB409 _ _ _ ob411 ne13))
    refine Z01 [0, 1, 6, 78] _ rfl ?_
    exact J424 ⟨h404, (r368.2 : Int) == 0, r401.2, HF, rfl, S412, s407.le, ob427, ob428, hJ406⟩
   refine Zq <| Zy <| Z4 <| Zc <| Z0 <| Wm rfl rfl ?_
   have ob452 := (ob275.step0 s273)
   obtain ⟨r453, hr454, HF⟩ := Z5 HF
   refine Wc rfl (Z9y (us := [pt b5 0]) (vs := []) (caps := []) rfl rfl t_ent_67) (ok_lexis_scanner_sign _ hr454 S277.sub ob452) ?_
   have ob461 := (ob274.step0 s273)
   have hJ462 := (hYst _ _ _ _ _ _ hJ276 s273 Z6l)
   rintro _ w456 ⟨h457, s458, _, _, rfl, ⟨cs459, rfl, r460⟩, rfl⟩
   have S463 := S277.trans0 s458
   refine Wm rfl rfl <| Wv rfl (Z0a rfl rfl) <| Wv rfl (Z0a rfl rfl) ?_
   have ob464 := (ob461.step0 s458)
   have ob465 := (ob452.step0 s458)
   have hJ466 := (hYst _ _ _ _ _ _ hJ462 s458 Z6l)
   refine Z19 (zs := [vi 0, .string Z1e, vi 0]) rfl rfl Z64 rfl S463.sub (fun w467 b468 hb469 s470 ob471 => ?_)
   have ne472 : b3 ≠ b468 := ob464.ne_new hb469
   have ne473 : b5 ≠ b468 := ob465.ne_new hb469
   have g474 : w0.heap.size ≤ b468 := by rw [hb469]; exact S463.size
   have S475 := S463.trans0 s470
   obtain rfl := Z67.1 (Rp.mono (s470.le) r460)
   refine Zr (vs := [vi r453.1.kind, .string r453.1.text, vi r453.1.pos]) rfl rfl rfl rfl Z1q (Z3 rfl (Z3 rfl (Z3 rfl Zx))) ob471 S475.sub (by simp) (ds := [vi r453.1.kind, .string r453.1.text, vi r453.1.pos]) rfl (fun w476 s477 ob478 => ?_)
   have S479 := S475.trans1 s477 (.inr g474)
   refine Wa rfl rfl <| Z6 <| Z4 <| Zc <| Z0 ?_
   have ob480 := ((ob464.step0 s470).step1 s477 ne472)
   refine Wv rfl (Zb rfl Z3y (OB.cell ob480 (j := 0) rfl)) <| Wv rfl (Zp rfl) <| Wv rfl (Z1 rfl Z0q) ?_
   have ob481 := ((ob465.step0 s470).step1 s477 ne473)
   refine Wv rfl (Zb rfl Z04 (OB.cell ob481 (j := 1) rfl)) <| Wv rfl (Z1 rfl Ze2) <| Zr (vs := [vi x29]) rfl rfl rfl rfl Z1s (Z3 rfl Zx) ob478 S479.sub (by simp) (ds := [vi r453.1.kind, .string r453.1.text, vi x29]) rfl (fun w482 s483 ob484 => ?_)
   have S485 := S479.trans1 s483 (.inr g474)
   refine Z6 <| Z4 <| Z09 (fun E w516 => ∃ (h515 : Hp) (x521 : YS), Z9e j33 (Z03 j33) x7 x29 r453 x521 = some r ∧ E = [(0, .func (.yield l1) #[] #[]), (1, pt b3 0), (6, vi r453.2)] ∧ Stp ([b5] ++ MY) w0 h0 w516 h515 ∧ Hle h457 h515 ∧ OB w516 h515 b3 T4 [pt b5 0] ∧ OB w516 h515 b5 T6 [.string x7, vi x29] ∧ J x521 w516 h515) ?_ ?_
   ·rintro E w516 ⟨h515, x521, HF, rfl, S518, le517, ob519, ob520, ob522⟩
    refine Z0 <| Wv rfl (Zb rfl Z3y (OB.cell ob519 (j := 0) rfl)) <| Wv rfl (Zp rfl) <| Wv rfl (Z1 rfl Z0q) <| Wv rfl (Zb rfl Z04 (OB.cell ob520 (j := 1) rfl)) <| Wm rfl rfl <| Wv rfl (Z3e rfl rfl) <| Wv rfl (Zp rfl) <| Wv rfl (Z1 rfl Z0q) <| Zr (vs := [vi (IntKind.i64.wrap (x29 + r453.2))]) rfl rfl rfl rfl Z1s (Z3 rfl Zx) ob520 S518.sub (by simp) (ds := [.string x7, vi (IntKind.i64.wrap (x29 + r453.2))]) rfl (fun w523 s524 ob525 => ?_)
    have S526 := S518.trans1 s524 (.inl (by simp))
    refine Z6 <| Zy <| Z4 <| Z0 ?_
    have ob527 := (ob519.step1 s524 ne11)
    refine Wv rfl (Zb rfl Z3y (OB.cell ob527 (j := 0) rfl)) ?_
    obtain ⟨r528, hr529, HF⟩ := Z5 HF
    refine Wc rfl (Zd (vs := [pt b5 0]) rfl t_ent_66) (Z3v _ hr529 S526.sub ob525) ?_
    have hJ534 := (hYst _ _ _ _ _ _ ob522 s524 (Z9g ne13 ob520 Z6l))
    rintro v530 w531 ⟨h532, s533, rfl, ob535⟩
    have S536 := S526.trans s533 (Zl (.inl (by simp)) Zt)
    refine Z6 ?_
    have ob550 := (ob527.step1 s533 ne11)
    have hJ551 := (hYst _ _ _ _ _ _ hJ534 s533 (Z9g ne13 ob525 Z6l))
    refine Z2p <| Z99 [0, 1] [(0, .func (.yield l1) #[] #[]), (1, pt b3 0)] rfl ?_
    exact IHL34 j33 (Nat.le_refl _) _ _ ⟨h532, r528, x521, HF, rfl, S536, (le26).trans ((le49).trans ((s56.le).trans ((s66.le).trans ((s79.le).trans ((s176.le).trans ((s273.le).trans ((s458.le).trans ((s470.le).trans ((s477.le).trans ((s483.le).trans ((le517).trans ((s524.le).trans s533.le)))))))))))), ob550, ob535, hJ551⟩
   intro J537
   refine Z09 (fun E w501 => ∃ (h500 : Hp) (x504 : Bool) (x507 : YS), Z6g j33 (Z03 j33) x7 x29 r453 x504 x507 = some r ∧ E = [(0, .func (.yield l1) #[] #[]), (1, pt b3 0), (6, vi r453.2), (78, .bool x504)] ∧ Stp ([b5] ++ MY) w0 h0 w501 h500 ∧ Hle h457 h500 ∧ OB w501 h500 b3 T4 [pt b5 0] ∧ OB w501 h500 b5 T6 [.string x7, vi x29] ∧ J x507 w501 h500) ?_ ?_
   ·rintro E w501 ⟨h500, x504, x507, HF, rfl, S503, le502, ob505, ob506, ob508⟩
    refine Z15 HF rfl (fun HF => ?_) (fun HF => ?_)
    ·refine Z0b <| Zv <| Z0k <| Zv <| Zv <| Z0k <| WQ.ret0 rfl ?_
     obtain rfl := Option.some.inj HF
     exact ⟨_, rfl, h500, S503, rfl, ob506, ob508⟩
    refine Zq <| Z01 [0, 1, 6] _ rfl ?_
    exact J537 ⟨h500, x507, HF, rfl, S503, le502, ob505, ob506, ob508⟩
   intro J510
   refine WC.regionI <| WI.val (fun _ => trivial) rfl rfl rfl (fun c h => by cases h) (Z0t rfl) <| WI.val (fun _ => trivial) rfl rfl rfl (fun c h => by cases h) (Z2t (cs := [vi r453.1.kind, .string r453.1.text, vi x29]) rfl Z8c Z1q (OB.cells ob484 0 rfl)) <| WI.val (fun _ => trivial) rfl rfl rfl (fun c h => by cases h) (Z0t rfl) ?_
   have hJ486 := (hYst _ _ _ _ _ _ (hYst _ _ _ _ _ _ (hYst _ _ _ _ _ _ hJ466 s470 Z6l) s477 (Z9g (ny_new hMY g474) ob471 Z6l)) s483 (Z9g (ny_new hMY g474) ob478 Z6l))
   have ob496 := (ob480.step1 s483 ne472)
   have ob497 := (ob481.step1 s483 ne473)
   obtain ⟨r487, hr488, HF⟩ := Z5 HF
   refine WI.yield (vs := [.agg #[vi r453.1.kind, .string r453.1.text, vi x29], vi r453.2]) rfl rfl rfl rfl (hY _ _ _ _ _ _ _ hr488 hJ486 S485.size S485.sub (Z67.2 rfl)) ?_
   rintro _ w489 ⟨rfl, h490, M491, hJ492, s493, hM494, hOB495⟩
   have S498 := S485.trans s493 (fun i hi => (hM494 i hi).imp (fun q => List.mem_append_right _ q) id)
   refine WI.val (fun _ => trivial) rfl rfl rfl (fun c h => by cases h) (Z30 rfl) <| WI.val (fun _ => trivial) rfl rfl rfl (fun c h => by cases h) (Z0t rfl) <| WI.split 75 (b := !r487.1) rfl (fun hb499 => ?_) (fun hb499 => ?_)
   ·replace HF := bif_t hb499 HF
    refine WI.pass (fun _ => trivial) rfl rfl rfl <| WI.pass (fun _ => trivial) rfl rfl rfl <| WI.val (fun _ => trivial) rfl rfl rfl (fun c h => by cases h) (Zj rfl rfl) <| WI.nil ?_
    have ob511 := (ob496.step s493 (hOB495 _ _ _ ob496 ne12))
    have ob512 := (ob497.step s493 (hOB495 _ _ _ ob497 ne13))
    refine Z01 [0, 1, 6, 78] _ rfl ?_
    exact J510 ⟨h490, true, r487.2, HF, rfl, S498, s493.le, ob511, ob512, hJ492⟩
   replace HF := bif_f hb499 HF
   refine WI.val (fun _ => trivial) rfl rfl rfl (fun c h => by cases h) (Z0t rfl) <| WI.val (fun _ => trivial) rfl rfl rfl (fun c h => by cases h) (Z1g rfl rfl) <| WI.val (fun _ => trivial) rfl rfl rfl (fun c h => by cases h) (Zi rfl rfl) <| WI.nil ?_
   have ob513 := (ob496.step s493 (hOB495 _ _ _ ob496 ne12))
   have ob514 := (ob497.step s493 (hOB495 _ _ _ ob497 ne13))
   refine Z01 [0, 1, 6, 78] _ rfl ?_
   exact J510 ⟨h490, (r453.2 : Int) == 0, r487.2, HF, rfl, S498, s493.le, ob513, ob514, hJ492⟩
  intro J538
  refine Zc <| Z51 (m := 9) [(0, .func (.yield l1) #[] #[]), (1, pt b3 0)] [0, 1] rfl (fun i v w h => match i with | 0 => v = pt b5 0 | 1 => v = pt b5 0 | 2 => v = pt b5 1 | 3 => v = vi x29 | 4 => v = pt b5 0 | 5 => v = pt b5 0 | 6 => v = pt b5 0 | 7 => v = .string x7 | 8 => v = vi (x7.size : Int) | _ => True) Z6h S27.sub rfl rfl rfl rfl rfl ?_ ?_ ?_
  ·intro i v w h w2 h2 hΦ hst
   match i, hΦ with
   | 0, hΦ | 1, hΦ | 2, hΦ | 3, hΦ | 4, hΦ | 5, hΦ | 6, hΦ | 7, hΦ | 8, hΦ => exact hΦ
   | i + 9, _ => exact trivial
  ·refine ⟨?_, ?_, ?_, ?_, ?_, ?_, ?_, ?_, ?_, trivial⟩
   ·intro a w36 h37 s38 hat hF
    have ob39 := (ob28.step0 s38)
    exact Za hat rfl (Zb rfl Z3y (OB.cell ob39 (j := 0) rfl)) s38.sub (by exact rfl)
   ·intro a w36 h37 s38 hat hF
    exact Za (Z7 hat (hF 0 9 rfl rfl)) rfl (Zp rfl) s38.sub (by exact rfl)
   ·intro a w36 h37 s38 hat hF
    exact Za (Z7 hat (hF 1 10 rfl rfl)) rfl (Z1 rfl Z0q) s38.sub (by exact rfl)
   ·intro a w36 h37 s38 hat hF
    have ob40 := (ob30.step0 s38)
    exact Za (Z7 hat (hF 2 11 rfl rfl)) rfl (Zb rfl Z04 (OB.cell ob40 (j := 1) rfl)) s38.sub (by exact rfl)
   ·intro a w36 h37 s38 hat hF
    have ob41 := (ob28.step0 s38)
    exact Za hat rfl (Zb rfl Z3y (OB.cell ob41 (j := 0) rfl)) s38.sub (by exact rfl)
   ·intro a w36 h37 s38 hat hF
    exact Za (Z7 hat (hF 4 13 rfl rfl)) rfl (Zp rfl) s38.sub (by exact rfl)
   ·intro a w36 h37 s38 hat hF
    exact Za (Z7 hat (hF 5 14 rfl rfl)) rfl (Z1 rfl Z1v) s38.sub (by exact rfl)
   ·intro a w36 h37 s38 hat hF
    have ob42 := (ob30.step0 s38)
    exact Za (Z7 hat (hF 6 15 rfl rfl)) rfl (Zb rfl Z32 (OB.cell ob42 (j := 0) rfl)) s38.sub (by exact rfl)
   intro a w36 h37 s38 hat hF
   exact Za (Z7 hat (hF 7 16 rfl rfl)) rfl (Z7w rfl Z00) s38.sub (by exact rfl)
  intro a w36 h37 s38 hat hF
  obtain hv0 := hF 0 9 (by decide) rfl
  obtain hv1 := hF 1 10 (by decide) rfl
  obtain hv2 := hF 2 11 (by decide) rfl
  obtain hv3 := hF 3 12 (by decide) rfl
  obtain hv4 := hF 4 13 (by decide) rfl
  obtain hv5 := hF 5 14 (by decide) rfl
  obtain hv6 := hF 6 15 (by decide) rfl
  obtain hv7 := hF 7 16 (by decide) rfl
  obtain hv8 := hF 8 17 (by decide) rfl
  refine Zdh [(17, vi (x7.size : Int)), (16, .string x7), (15, pt b5 0), (14, pt b5 0), (13, pt b5 0), (12, vi x29), (11, pt b5 1), (10, pt b5 0), (9, pt b5 0), (0, .func (.yield l1) #[] #[]), (1, pt b3 0)] (Z7 (Z7 (Z7 (Z7 (Z7 (Z7 (Z7 (Z7 (Z7 hat hv0) hv1) hv2) hv3) hv4) hv5) hv6) hv7) hv8) ?_
  have S43 := S27.trans0 s38
  refine Wv rfl (Zdk rfl rfl) <| Z6 <| Z4 <| Z15 HF rfl (fun HF => ?_) (fun HF => ?_)
  ·refine Zq ?_
   have ob539 := (ob28.step0 s38)
   have ob540 := (ob30.step0 s38)
   have hJ541 := (hYst _ _ _ _ _ _ ob32 s38 Z6l)
   refine Z01 [0, 1] _ rfl ?_
   exact J538 ⟨h37, HF, rfl, S43, s38.le, ob539, ob540, hJ541⟩
  refine Z66 <| Z05 <| Z05 <| Z1m ?_
  have ob45 := (ob30.step0 s38)
  have hJ46 := (hYst _ _ _ _ _ _ ob32 s38 Z6l)
  refine Z6j rfl ?_
  obtain rfl := Option.some.inj HF
  exact ⟨_, rfl, h37, S43, rfl, ob45, hJ46⟩
 have ob552 := (ob10.step1 s21 ne11)
 have hJ553 := (hYst _ _ _ _ _ _ hJ0 s21 (Z9g ne13 ob9 Z6l))
 exact ⟨h20, r16, y2, HF, rfl, S23, Hle.refl _, ob552, ob22, hJ553⟩
theorem Zfg : ∀ k j, j ≤ k → Z55 (Z03 j).lexis_scanner_tokens_1 := by
  intro k
  induction k with
  | zero =>
    intro j hj
    obtain rfl : j = 0 := by omega
    exact (fun _ _ _ _ => by intro h; cases h)
  | succ k ih =>
    intro j hj
    by_cases h : j ≤ k
    · exact ih j h
    · obtain rfl : j = k + 1 := by omega
      exact Zgw k ih
theorem Zfk (k : Nat) : Z55 (Zav k) := (Zfg k k (Nat.le_refl _))
def C_lexis_Tokens (φ : ByteArray → Option (List Tok × Int × Int)) : Prop := ∀ ⦃x1 : ByteArray⦄ ⦃r : List Tok × Int × Int⦄, φ x1 = some r → ∀ ⦃w0 : World⦄ ⦃h0 : Hp⦄, Sub h0 w0 →
  Calls Tryz.prog 18 #[.string x1] w0 fun e w1 => ∃ v, e = .returned v ∧ ∃ h1, Stp [] w0 h0 w1 h1 ∧ (∃ u0 u1 u2 : Value, v = .tuple #[u0, u1, u2] ∧ (RS h1 u0 r.1) ∧ (u1 = .int .i64 r.2.1) ∧ (u2 = .int .i64 r.2.2))
def rfParts : Code → Array Tmp × Code × Code
  | .seq _ (.seq _ (.seq _ (.seq _ (.seq (.seq _ (.block _ (.rangeFunc _ p a b))) _)))) => (p, a, b)
  | _ => (#[], .skip, .skip)
def rfOf (f : Func) : Array Tmp × Code × Code := match f.body with
  | some c => rfParts c
  | none => (#[], .skip, .skip)
noncomputable def Z4r (fn : FuncId) (tmps : Array Value) (D : Nat) (st : LoopState) (pe : Option Code) : Loop := { state := st, pending := pe, fn, tmps, params := (rfOf Tryz.f18).1, assign := (rfOf Tryz.f18).2.1, body := (rfOf Tryz.f18).2.2, defers := D }
def TokJ (l D b2 b3 b4 b5 B : Nat) (Lr Ld : Loop) (s : YS) (w : World) (h : Hp) : Prop :=
  h.base ≤ D ∧ ∃ vo, w.heap[l]? = some (.loop (match s.2 with | none => Lr | some _ => Ld)) ∧ w.heap[D]? = some (.deferred (some [])) ∧ OB w h b5 34 [vo] ∧ RS h vo s.1 ∧ Own w h B 38 3 vo s.1.length ∧
    OB w h b2 34 [.slice none 0 0] ∧ OB w h b3 3 [.int .i64 (s.2.getD 0)] ∧ OB w h b4 23 [.int .i64 (if s.2.isSome then 4 else 0)]
theorem TokJ.step {l D b2 b3 b4 b5 B : Nat} {Lr Ld : Loop} {s : YS} {w w1 : World} {h h1 : Hp} {M : List Nat} (j : TokJ l D b2 b3 b4 b5 B Lr Ld s w h) (st : Stp M w h w1 h1) (ym : YM [l, b2, b3, b4, b5] w h M) : TokJ l D b2 b3 b4 b5 B Lr Ld s w1 h1 := by
  obtain ⟨hbD, vo, jl, jD, o5, rs, own, o2, o3, o4⟩ := j
  have nin : ∀ b ∈ [l, b2, b3, b4, b5], b ∉ M := fun b hb hm => (ym b hm).1 hb
  have hDM : D ∉ M := fun hm => by
    obtain ⟨_, T, cs, ob⟩ := ym D hm
    have q := ob.heap; rw [jD] at q; cases q
  refine ⟨by rw [st.eqb]; exact hbD, vo, ?_, ?_, o5.step st (nin _ (by simp)), rs.mono st.le, own.step st (fun b hb => ?_), o2.step st (nin _ (by simp)), o3.step st (nin _ (by simp)), o4.step st (nin _ (by simp))⟩
  · rw [st.block l (Array.getElem?_eq_some_iff.1 jl).1 (nin _ (by simp))]; exact jl
  · rw [st.block D (Array.getElem?_eq_some_iff.1 jD).1 hDM]; exact jD
  · obtain ⟨_, T, cs, ob⟩ := ym b hb
    exact own.ne_obS1 rs ob
theorem tok_round {fn : FuncId} {a : Act} {E : Env} {l D b2 b3 b4 b5 B : Nat} (hE : At 33 E a) (hE2 : lk E 2 = some (.pointer (some ⟨b2, 0, none⟩))) (hE3 : lk E 3 = some (.pointer (some ⟨b3, 0, none⟩))) (hE4 : lk E 4 = some (.pointer (some ⟨b4, 0, none⟩))) (hE5 : lk E 5 = some (.pointer (some ⟨b5, 0, none⟩)))
    (n23 : b2 ≠ b3) (n24 : b2 ≠ b4) (n34 : b3 ≠ b4) (n25 : b2 ≠ b5) (n35 : b3 ≠ b5) (n45 : b4 ≠ b5) (hlD : D + 1 = l) (hDB : D ≤ B) :
    ∀ (s : YS) (t : Tok) (n : Int) (r : Bool × YS) (w : World) (h : Hp) (cs : List Value), yfTok s t n = some r → TokJ l D b2 b3 b4 b5 B (Z4r fn a.tmps D .ready none) (Z4r fn a.tmps D .done (some .ret)) s w h → B ≤ w.heap.size → Sub h w → Rp.R h t cs →
      YieldAt Fence.wide 0 Tryz.prog l #[.agg cs.toArray, .int .i64 n] w fun e w1 => ∃ b, e = .returned (.bool b) ∧ b = r.1 ∧ ∃ h1 M, TokJ l D b2 b3 b4 b5 B (Z4r fn a.tmps D .ready none) (Z4r fn a.tmps D .done (some .ret)) r.2 w1 h1 ∧ Stp M w h w1 h1 ∧ (∀ i ∈ M, i ∈ [l, b2, b3, b4, b5] ∨ B ≤ i) ∧ ∀ b T cs, OB w h b T cs → b ∉ [l, b2, b3, b4, b5] → b ∉ M := by
  have c34 : Zhq Tryz.prog 34 = some 1 := by kernel_rfl
  have z38 : tZero Tryz.prog 38 = some (.agg #[.int .i64 0, .string ⟨#[]⟩, .int .i64 0]) := by kernel_rfl
  rintro ⟨so, sa⟩ t n r w h cs hr ⟨hbD, vo, jl, jD, o5, rs, own, o2, o3, o4⟩ hB hs hR
  have hbB : h.base ≤ B := Nat.le_trans hbD hDB
  have hbl : h.base ≤ l := by omega
  replace hlD : l ≠ D := by omega
  cases sa with
  | some q => simp [yfTok] at hr
  | none =>
  obtain rfl := Z67.1 hR
  replace jl : w.heap[l]? = some (.loop (Z4r fn a.tmps D .ready none)) := jl
  replace o3 : OB w h b3 3 [.int .i64 0] := o3
  replace o4 : OB w h b4 23 [.int .i64 0] := o4
  replace rs : RS h vo so := rs
  replace own : Own w h B 38 3 vo so.length := own
  have hp : (rfOf Tryz.f18).1 = #[17, 18] := by kernel_rfl
  have hlw : l < w.heap.size := (Array.getElem?_eq_some_iff.1 jl).1
  have lne : ∀ {b T : Nat} {cs : List Value}, OB w h b T cs → b ≠ l := fun ob q => by subst q; have q := ob.heap; rw [jl] at q; cases q
  refine yieldAt_of (nn := 33) (E0 := (18, .int .i64 n) :: (17, .agg #[.int .i64 t.kind, .string t.text, .int .i64 t.pos]) :: E) jl rfl ?_ ?_
  · have hat2 := (hE.put (d := 17) (by decide) (.agg #[.int .i64 t.kind, .string t.text, .int .i64 t.pos])).put (d := 18) (by decide) (.int .i64 n)
    have e : ((Z4r fn a.tmps D .ready none).params.zip #[Value.agg #[.int .i64 t.kind, .string t.text, .int .i64 t.pos], .int .i64 n]).foldl (fun tmps (t, a) => tmps.setIfInBounds t a) (Z4r fn a.tmps D .ready none).tmps = (((a.put (some 17) (.agg #[.int .i64 t.kind, .string t.text, .int .i64 t.pos])).put (some 18) (.int .i64 n)).tmps) := by
      simp [Z4r, hp, Act.put]
    rw [e]
    exact ⟨rfl, hat2.size, hat2.slot⟩
  refine WZ.seq <| WZ.region ?_
  refine WI.val (fun _ => trivial) rfl rfl rfl (fun c h => by cases h) (ov_allocN z38 rfl) ?_
  have s1 := Zgv hs (.cells #[.int .i64 0, .string ⟨#[]⟩, .int .i64 0] 38)
  have ob7 := alloc_ob hs [.int .i64 0, .string ⟨#[]⟩, .int .i64 0] 38
  refine WI.unit (fun _ => trivial) rfl rfl (fun c h => by cases h) (ou_store (vs := [.int .i64 t.kind, .string t.text, .int .i64 t.pos]) (ds := [.int .i64 t.kind, .string t.text, .int .i64 t.pos]) rfl rfl rfl Z1q (Z3 rfl (Z3 rfl (Z3 rfl Zx))) ob7 (by simp) rfl) ?_
  have s2 := Zch s1.sub ob7 [.int .i64 t.kind, .string t.text, .int .i64 t.pos]
  replace ob7 := Zfz ob7 [.int .i64 t.kind, .string t.text, .int .i64 t.pos]
  refine WI.nil <| WQ.seqD <| WZ.region <| WI.val (fun _ => trivial) rfl rfl rfl (fun c h => by cases h) (ov_assign rfl) <| WI.nil ?_
  have jl2 : ((w.alloc (.cells #[.int .i64 0, .string ⟨#[]⟩, .int .i64 0] 38)).setRow w.heap.size #[.int .i64 t.kind, .string t.text, .int .i64 t.pos]).heap[l]? = some (.loop (Z4r fn a.tmps D .ready none)) := by
    rw [s2.block l (by have := s1.size; omega) (by simp; omega), s1.block l hlw (by simp)]; exact jl
  refine WQ.begin jl2 rfl ?_
  have s3 := Ze9 (o' := .loop { Z4r fn a.tmps D .ready none with state := .busy }) s2.sub jl2 rfl hbl
  generalize hw3 : ((w.alloc (.cells #[.int .i64 0, .string ⟨#[]⟩, .int .i64 0] 38)).setRow w.heap.size #[.int .i64 t.kind, .string t.text, .int .i64 t.pos]) = w2 at s2 s3 jl2 ob7
  have jl3 : (w2.putObj l (.loop { Z4r fn a.tmps D .ready none with state := .busy })).heap[l]? = some (.loop { Z4r fn a.tmps D .ready none with state := .busy }) := World.putObj_heap_same (Array.getElem?_eq_some_iff.1 jl2).1
  generalize hw4 : w2.putObj l (.loop { Z4r fn a.tmps D .ready none with state := .busy }) = w3 at s3 jl3
  have S12 : Stp [] w h w2 h := s1.trans1 s2 (.inr (Nat.le_refl _))
  have S3 : Stp [l] w h w3 h := ((Stp.refl hs [l]).trans0 S12).trans1 s3 (.inl (by simp))
  have n7 : ∀ {b T : Nat} {cs : List Value}, OB w h b T cs → b ≠ w.heap.size := fun ob => by have := ob.lt; omega
  have l7 : w.heap.size ≠ l := by omega
  replace ob7 := ob7.step1 s3 l7
  have jD3 : w3.heap[D]? = some (.deferred (some [])) := (S3.block D (Array.getElem?_eq_some_iff.1 jD).1 (by simpa using hlD.symm)).trans jD
  refine WZ.block <| WZ.seq <| WZ.seq <| WZ.region <| WI.val (fun _ => trivial) rfl rfl rfl (fun c h => by cases h) (Z0t rfl) <| WI.val (fun _ => trivial) rfl rfl rfl (fun c h => by cases h) (Z1g rfl rfl) <| WI.nil <| WQ.seqD ?_
  by_cases hn : n = 0
  · -- no token: it leaves
    subst hn
    simp [yfTok] at hr
    subst hr
    refine WZ.condT rfl <| WZ.seq <| WZ.drawn Z6h s3.sub (fun w4 s4 => ?_)
    have q2 := (o2.step1 S3 (lne o2)).step0 s4
    have q3 := (o3.step1 S3 (lne o3)).step0 s4
    have q4 := (o4.step1 S3 (lne o4)).step0 s4
    have q7 := ob7.step0 s4
    have s5 := Zch s4.sub q2 [.slice none 0 0]
    have p2 := Zfz q2 [.slice none 0 0]
    have s6 := Zch s5.sub (q3.step1 s5 n23.symm) [.int .i64 t.pos]
    have p3 := Zfz (q3.step1 s5 n23.symm) [.int .i64 t.pos]
    have s7 := Zch s6.sub ((q4.step1 s5 n24.symm).step1 s6 n34.symm) [.int .i64 4]
    have p4 := Zfz ((q4.step1 s5 n24.symm).step1 s6 n34.symm) [.int .i64 4]
    generalize hv5 : w4.setRow b2 #[.slice none 0 0] = w5 at s5 p2 s6 p3 s7 p4
    generalize hv6 : w5.setRow b3 #[.int .i64 t.pos] = w6 at s6 p3 s7 p4
    generalize hv7 : w6.setRow b4 #[.int .i64 4] = w7 at s7 p4
    have r2 := (p2.step1 s6 n23).step1 s7 n24
    have r3 := p3.step1 s7 n34
    have l2 := lne o2
    have l3 := lne o3
    have l4 := lne o4
    have l5 := lne o5
    have S7 : Stp [l, b2, b3, b4, b5] w h w7 h := (((((Stp.refl hs [l, b2, b3, b4, b5]).trans S3 (by simp)).trans0 s4).trans1 s5 (.inl (by simp))).trans1 s6 (.inl (by simp))).trans1 s7 (.inl (by simp))
    have jl7 : w7.heap[l]? = some (.loop { Z4r fn a.tmps D .ready none with state := .busy }) := by
      have h3 : l < w3.heap.size := (Array.getElem?_eq_some_iff.1 jl3).1
      rw [s7.block l (by have := s4.size; have := s5.size; have := s6.size; omega) (by simpa using l4.symm), s6.block l (by have := s4.size; have := s5.size; omega) (by simpa using l3.symm), s5.block l (by have := s4.size; omega) (by simpa using l2.symm), s4.block l h3 (by simp)]
      exact jl3
    have s8 := Ze9 (o' := .loop { Z4r fn a.tmps D .ready none with state := .done, pending := some .ret }) s7.sub jl7 rfl hbl
    have fin : ∀ E, WQ 33 (roundPost Tryz.prog l fun e w1 => ∃ b, e = .returned (.bool b) ∧ b = false ∧ ∃ h1 M, TokJ l D b2 b3 b4 b5 B (Z4r fn a.tmps D .ready none) (Z4r fn a.tmps D .done (some .ret)) (so, some t.pos) w1 h1 ∧ Stp M w h w1 h1 ∧ (∀ i ∈ M, i ∈ [l, b2, b3, b4, b5] ∨ B ≤ i) ∧ ∀ b T cs, OB w h b T cs → b ∉ [l, b2, b3, b4, b5] → b ∉ M) .ret E w7 := fun E => by
      refine WQ.roundR (L := { Z4r fn a.tmps D .ready none with state := .busy }) jl7 ⟨false, rfl, rfl, h, [l, b2, b3, b4, b5], ?_, S7.trans1 s8 (.inl (by simp)), fun i hi => .inl hi, fun b T cs _ hb => hb⟩
      have S8 := S7.trans1 s8 (.inl (by simp))
      have lD : l ≠ D := hlD
      refine ⟨hbD, vo, World.putObj_heap_same (Array.getElem?_eq_some_iff.1 jl7).1, ?_, ?_, rs, ?_, (r2.step1 s8 l2), (r3.step1 s8 l3), (p4.step1 s8 l4)⟩
      · have hDw : D < w3.heap.size := (Array.getElem?_eq_some_iff.1 jD3).1
        have d2 : D ≠ b2 := fun q => by subst q; have q := o2.heap; rw [jD] at q; cases q
        have d3 : D ≠ b3 := fun q => by subst q; have q := o3.heap; rw [jD] at q; cases q
        have d4 : D ≠ b4 := fun q => by subst q; have q := o4.heap; rw [jD] at q; cases q
        rw [s8.block D (by have := s4.size; have := s5.size; have := s6.size; have := s7.size; omega) (by simpa using hlD.symm), s7.block D (by have := s4.size; have := s5.size; have := s6.size; omega) (by simpa using d4), s6.block D (by have := s4.size; have := s5.size; omega) (by simpa using d3), s5.block D (by have := s4.size; omega) (by simpa using d2), s4.block D hDw (by simp)]
        exact jD3
      · exact ((((((o5.step1 S3 l5).step0 s4).step1 s5 n25.symm).step1 s6 n35.symm).step1 s7 n45.symm).step1 s8 l5)
      · refine own.step S8 (fun b hb => ?_)
        simp only [List.mem_cons, List.not_mem_nil, or_false] at hb
        rcases hb with rfl | rfl | rfl | rfl | rfl
        · intro q
          rcases own with ⟨rfl, _⟩ | ⟨g, cap, cur, rfl, hbg, hg, _⟩
          · simp [Value.ownBlock] at q
          · simp [Value.ownBlock] at q; subst q; rw [jl] at hg; cases hg
        · exact own.ne_obS1 rs o2
        · exact own.ne_obS1 rs o3
        · exact own.ne_obS1 rs o4
        · exact own.ne_obS1 rs o5
    have load : ∀ {E : Env} {dd : Option Tmp} {ty : TypeId} {ps : String} {af : Array Edge} {g : Option (Nat × Bool)} {x : Operand} {wx : World}, ev E x = some (.pointer (some ⟨w.heap.size, 2, none⟩)) → OB wx h w.heap.size 38 [.int .i64 t.kind, .string t.text, .int .i64 t.pos] → OV Tryz.prog ⟨dd, .load 3 x, ty, ps, af, g⟩ E wx (.int .i64 t.pos) wx := fun hx ob => Zb hx Z04 (OB.cell ob (j := 2) rfl)
    have f38 : fOff Tryz.prog 38 2 = some 2 := by kernel_rfl
    have st2 : ∀ {E : Env} {dd : Option Tmp} {ty : TypeId} {ps : String} {af : Array Edge} {g : Option (Nat × Bool)} {x y : Operand}, ev E x = some (.pointer (some ⟨b2, 0, none⟩)) → ev E y = some (.slice none 0 0) → OU Tryz.prog ⟨dd, .store 34 x y, ty, ps, af, g⟩ E w4 w5 := fun hx hy => by
      rw [← hv5]; exact ou_store (vs := [.slice none 0 0]) (ds := [.slice none 0 0]) hx hy rfl c34 (Z3 rfl Zx) q2 (by simp) rfl
    have st3 : ∀ {E : Env} {dd : Option Tmp} {ty : TypeId} {ps : String} {af : Array Edge} {g : Option (Nat × Bool)} {x y : Operand}, ev E x = some (.pointer (some ⟨b3, 0, none⟩)) → ev E y = some (.int .i64 t.pos) → OU Tryz.prog ⟨dd, .store 3 x y, ty, ps, af, g⟩ E w5 w6 := fun hx hy => by
      rw [← hv6]; exact ou_store (vs := [.int .i64 t.pos]) (ds := [.int .i64 t.pos]) hx hy rfl Z1s (Z3 rfl Zx) (q3.step1 s5 n23.symm) (by simp) rfl
    have st4 : ∀ {E : Env} {dd : Option Tmp} {ty : TypeId} {ps : String} {af : Array Edge} {g : Option (Nat × Bool)} {x y : Operand}, ev E x = some (.pointer (some ⟨b4, 0, none⟩)) → ev E y = some (.int .i64 4) → OU Tryz.prog ⟨dd, .store 23 x y, ty, ps, af, g⟩ E w6 w7 := fun hx hy => by
      rw [← hv7]; exact ou_store (vs := [.int .i64 4]) (ds := [.int .i64 4]) hx hy rfl Z5t (Z3 rfl Zx) ((q4.step1 s5 n24.symm).step1 s6 n34.symm) (by simp) rfl
    have F : ∀ f : FuncId, (Fence.wide.inRound l).fn f := fun _ => trivial
    refine WB.two (i := 0) (j := 2) (by kernel_rfl) rfl rfl ?_ ?_
    · refine WI.val F rfl rfl rfl (fun c h => by cases h) (Z1 rfl f38) <| WI.nil <| Zf5 ?_
      refine WB.two (i := 1) (j := 2) (by kernel_rfl) rfl rfl ?_ ?_
      · refine WI.val F rfl rfl rfl (fun c h => by cases h) (load rfl q7) <| WI.nil <| Zf5 ?_
        refine WB.one (i := 2) (by kernel_rfl) rfl ?_
        refine WI.unit F rfl rfl (fun c h => by cases h) (st2 hE2 rfl) <| WI.nil <| Zf5 ?_
        refine WB.one (i := 3) (by kernel_rfl) rfl ?_
        refine WI.unit F rfl rfl (fun c h => by cases h) (st3 hE3 rfl) <| WI.nil <| Zf5 ?_
        refine WB.one (i := 4) (by kernel_rfl) rfl ?_
        refine WI.unit F rfl rfl (fun c h => by cases h) (st4 hE4 rfl) <| WI.nil <| Zf5 ?_
        exact WB.fin (by kernel_rfl) <| WQ.seqD <| WZ.ret <| WQ.thenRetD <| WQ.blockRetD <| fin _
      · refine WI.unit F rfl rfl (fun c h => by cases h) (st2 hE2 rfl) <| WI.nil <| Zf5 ?_
        refine WB.one (i := 1) (by kernel_rfl) rfl ?_
        refine WI.val F rfl rfl rfl (fun c h => by cases h) (load rfl (q7.step1 s5 (n7 o2).symm)) <| WI.nil <| Zf5 ?_
        refine WB.one (i := 3) (by kernel_rfl) rfl ?_
        refine WI.unit F rfl rfl (fun c h => by cases h) (st3 hE3 rfl) <| WI.nil <| Zf5 ?_
        refine WB.one (i := 4) (by kernel_rfl) rfl ?_
        refine WI.unit F rfl rfl (fun c h => by cases h) (st4 hE4 rfl) <| WI.nil <| Zf5 ?_
        exact WB.fin (by kernel_rfl) <| WQ.seqD <| WZ.ret <| WQ.thenRetD <| WQ.blockRetD <| fin _
    · refine WI.unit F rfl rfl (fun c h => by cases h) (st2 hE2 rfl) <| WI.nil <| Zf5 ?_
      refine WB.one (i := 0) (by kernel_rfl) rfl ?_
      refine WI.val F rfl rfl rfl (fun c h => by cases h) (Z1 rfl f38) <| WI.nil <| Zf5 ?_
      refine WB.one (i := 1) (by kernel_rfl) rfl ?_
      refine WI.val F rfl rfl rfl (fun c h => by cases h) (load rfl (q7.step1 s5 (n7 o2).symm)) <| WI.nil <| Zf5 ?_
      refine WB.one (i := 3) (by kernel_rfl) rfl ?_
      refine WI.unit F rfl rfl (fun c h => by cases h) (st3 hE3 rfl) <| WI.nil <| Zf5 ?_
      refine WB.one (i := 4) (by kernel_rfl) rfl ?_
      refine WI.unit F rfl rfl (fun c h => by cases h) (st4 hE4 rfl) <| WI.nil <| Zf5 ?_
      exact WB.fin (by kernel_rfl) <| WQ.seqD <| WZ.ret <| WQ.thenRetD <| WQ.blockRetD <| fin _
  · -- a token: it is noted
    have hnb : (n == 0) = false := by simpa using hn
    unfold yfTok at hr
    simp only [hnb, cond_false] at hr
    replace hr : (if so.length + 1 < 1000000000 then some (true, (so ++ [t], none)) else none) = some r := hr
    obtain ⟨hlen, hr⟩ := Ze7 hr
    obtain rfl := Option.some.inj hr
    refine WZ.condF (by rw [← hnb]; rfl) <| WZ.skip <| WQ.seqD <| WZ.region ?_
    have l5 := lne o5
    have q5 := o5.step1 S3 l5
    have F : ∀ f : FuncId, (Fence.wide.inRound l).fn f := fun _ => trivial
    refine WI.val F rfl rfl rfl (fun c h => by cases h) (Zb hE5 t_agg_34 (OB.cell q5 (j := 0) rfl)) ?_
    refine WI.val F rfl rfl rfl (fun c h => by cases h) (Z2t (cs := [.int .i64 t.kind, .string t.text, .int .i64 t.pos]) rfl Z8c Z1q (OB.cells ob7 0 rfl)) ?_
    refine WI.val F rfl rfl rfl (fun c h => by cases h) (ov_buildSliceD (us := [.agg #[.int .i64 t.kind, .string t.text, .int .i64 t.pos]]) (cs := [.int .i64 t.kind, .string t.text, .int .i64 t.pos]) rfl Zfr Z1q z38 rfl (Z0c rfl Zci) rfl rfl rfl) ?_
    have s4 := alloc_row s3.sub [.int .i64 t.kind, .string t.text, .int .i64 t.pos] 38
    have rs1 : RS (hadd h w3.heap.size [.int .i64 t.kind, .string t.text, .int .i64 t.pos]) (.slice (some ⟨w3.heap.size, 0, none⟩) 1 1) [t] := RS.litL _ [[.int .i64 t.kind, .string t.text, .int .i64 t.pos]] rfl rfl (fun o => hadd_new h _ _ o) ⟨Z67.2 rfl, trivial⟩
    generalize hx4 : w3.alloc (.cells [Value.int .i64 t.kind, .string t.text, .int .i64 t.pos].toArray 38) = w4 at s4
    generalize hh4 : hadd h w3.heap.size [Value.int .i64 t.kind, .string t.text, .int .i64 t.pos] = h4 at s4 rs1
    have own3 : Own w3 h B 38 3 vo so.length := own.step S3 (fun b hb => by
      simp only [List.mem_cons, List.not_mem_nil, or_false] at hb; subst hb
      intro q
      rcases own with ⟨rfl, _⟩ | ⟨g, cap, cur, rfl, hbg, hg, _⟩
      · simp [Value.ownBlock] at q
      · simp [Value.ownBlock] at q; subst q; rw [jl] at hg; cases hg)
    have own4 := own3.step0 s4
    have hbase4 : B ≤ w4.heap.size := Nat.le_trans hB (Nat.le_trans S3.size s4.size)
    obtain ⟨v', w5, h5, hrun, r1, r2, s5, r4⟩ := run_append (P := Tryz.prog) (ty := 34) Zfr Z1q z38 rfl t_bytes_38 rfl own4 (rs.mono (S3.le.trans s4.le)) rs1 (by simpa using hlen) s4.sub hbase4 (by rw [s4.eqb]; exact hbB)
    refine WI.val F rfl rfl rfl (fun c h => by cases h) (ov_append rfl rfl hrun) ?_
    have q54 := q5.step0 s4
    have q55 := q54.step s5 (fun hm => own4.ne_obS (rs.mono (S3.le.trans s4.le)) q54 b5 hm rfl)
    refine WI.unit F rfl rfl (fun c h => by cases h) (ou_store (vs := [v']) (ds := [v']) hE5 rfl (RS.cellsL r1) c34 (Z3 r1.one Zx) q55 (by simp) rfl) ?_
    have s6 := Zch s5.sub q55 [v']
    have p5 := Zfz q55 [v']
    generalize hv6 : w5.setRow b5 [v'].toArray = w6 at s6 p5
    have rowN : ∀ {b T : Nat} {cs : List Value}, OB w h b T cs → b ∉ vo.ownBlock.toList := fun ob hm => own.ne_obS rs ob _ hm rfl
    have row4 : ∀ {b T : Nat} {cs : List Value}, OB w4 h4 b T cs → b ∉ vo.ownBlock.toList := fun ob hm => own4.ne_obS (rs.mono (S3.le.trans s4.le)) ob _ hm rfl
    have rowl : l ∉ vo.ownBlock.toList := fun hm => by
      rcases own with ⟨rfl, _⟩ | ⟨g, cap, cur, rfl, hbg, hg, _⟩
      · simp [Value.ownBlock] at hm
      · simp [Value.ownBlock] at hm; subst hm; rw [jl] at hg; cases hg
    have rowD : D ∉ vo.ownBlock.toList := fun hm => by
      rcases own with ⟨rfl, _⟩ | ⟨g, cap, cur, rfl, hbg, hg, _⟩
      · simp [Value.ownBlock] at hm
      · simp [Value.ownBlock] at hm; subst hm; rw [jD] at hg; cases hg
    have h3 : l < w3.heap.size := (Array.getElem?_eq_some_iff.1 jl3).1
    have z4 := s4.size
    have z5 := s5.size
    have jl6 : w6.heap[l]? = some (.loop { Z4r fn a.tmps D .ready none with state := .busy }) := by
      rw [s6.block l (by omega) (by simpa using l5.symm), s5.block l (by omega) rowl, s4.block l h3 (by simp)]
      exact jl3
    have hDw : D < w3.heap.size := (Array.getElem?_eq_some_iff.1 jD3).1
    have d5 : D ≠ b5 := fun q => by subst q; have q := o5.heap; rw [jD] at q; cases q
    have jD6 : w6.heap[D]? = some (.deferred (some [])) := by
      rw [s6.block D (by omega) (by simpa using d5), s5.block D (by omega) rowD, s4.block D hDw (by simp)]
      exact jD3
    have hb6 : h5.base ≤ l := by rw [s5.eqb, s4.eqb]; exact hbl
    have s7 := Ze9 (o' := .loop { Z4r fn a.tmps D .ready none with state := .ready, pending := none }) s6.sub jl6 rfl hb6
    refine WI.nil <| WQ.blockND <| WQ.roundN jl6 ⟨true, rfl, rfl, h5, vo.ownBlock.toList ++ [l, b2, b3, b4, b5], ?_, ?_, ?_, ?_⟩
    · have lb := fun {b T : Nat} {cs : List Value} (ob : OB w h b T cs) => lne ob
      have keep : ∀ {b T : Nat} {cs : List Value}, OB w h b T cs → b ≠ b5 → OB (w6.putObj l (.loop { Z4r fn a.tmps D .ready none with state := .ready, pending := none })) h5 b T cs := fun {b T cs} ob hne =>
        ((((ob.step1 S3 (lne ob)).step0 s4).step s5 (row4 ((ob.step1 S3 (lne ob)).step0 s4))).step1 s6 hne).step1 s7 (lne ob)
      refine ⟨by rw [s5.eqb, s4.eqb]; exact hbD, v', World.putObj_heap_same (Array.getElem?_eq_some_iff.1 jl6).1, ?_, p5.step1 s7 l5, r1.mono ((s6.le).trans s7.le), ?_, keep o2 n25, keep o3 n35, keep o4 n45⟩
      · rw [World.putObj_heap_other (Ne.symm hlD)]; exact jD6
      · refine (r2.step s6 (fun b hb => ?_)).step s7 (fun b hb => ?_)
        · simp only [List.mem_cons, List.not_mem_nil, or_false] at hb; subst hb
          exact r2.ne_obS1 r1 q55
        · simp only [List.mem_cons, List.not_mem_nil, or_false] at hb; subst hb
          have r3 := r2.step s6 (fun b hb => by simp only [List.mem_cons, List.not_mem_nil, or_false] at hb; subst hb; exact r2.ne_obS1 r1 q55)
          intro q
          rcases r3 with ⟨rfl, _⟩ | ⟨g, cap, cur, rfl, hbg, hg, _⟩
          · simp [Value.ownBlock] at q
          · simp [Value.ownBlock] at q; subst q; rw [jl6] at hg; cases hg
    · exact (((((Stp.refl hs _).trans S3 (by simp)).trans0 s4).trans s5 (fun i hi => .inl (List.mem_append_left _ hi))).trans1 s6 (.inl (by simp))).trans1 s7 (.inl (by simp))
    · intro i hi
      rcases List.mem_append.1 hi with hi | hi
      · exact .inr (own.base_le i hi)
      · exact .inl hi
    · intro b T cs ob hb hm
      rcases List.mem_append.1 hm with hm | hm
      · exact rowN ob hm
      · exact hb hm
theorem ok_lexis_Tokens (k : Nat) : C_lexis_Tokens (Zgn k) := by
  intro x1 r HF w0 h0 hs0
  simp only [Zgn, toksM] at HF
  have z34 : tZero Tryz.prog 34 = some (.slice none 0 0) := by kernel_rfl
  have c34 : Zhq Tryz.prog 34 = some 1 := by kernel_rfl
  have z38 : tZero Tryz.prog 38 = some (.agg #[.int .i64 0, .string ⟨#[]⟩, .int .i64 0]) := by kernel_rfl
  refine enterM (n := 33) Tryz.func18 rfl Tryz.ntmps18 rfl [(0, .string x1)] rfl ?_
  refine Zc <| Z0 ?_
  refine Z19 (zs := [.slice none 0 0]) rfl rfl z34 rfl hs0 (fun w1 b2 hb2 s1 ob2 => ?_)
  refine Z19 (zs := [.int .i64 0]) rfl rfl t_zero_3 rfl s1.sub (fun w2 b3 hb3 s2 ob3 => ?_)
  refine Z19 (zs := [.int .i64 0]) rfl rfl t_zero_23 rfl s2.sub (fun w3 b4 hb4 s3 ob4 => ?_)
  refine Z6 <| Z4 ?_
  have S3 : Stp [] w0 h0 w3 h0 := (s1.trans0 s2).trans0 s3
  have n23 : b2 ≠ b3 := ob2.ne_new hb3
  have n24 : b2 ≠ b4 := (ob2.step0 s2).ne_new hb4
  have n34 : b3 ≠ b4 := ob3.ne_new hb4
  replace ob2 := (ob2.step0 s2).step0 s3
  replace ob3 := ob3.step0 s3
  have g2 : w0.heap.size ≤ b2 := by omega
  have g3 : w0.heap.size ≤ b3 := by rw [hb3]; exact s1.size
  have g4 : w0.heap.size ≤ b4 := by rw [hb4]; exact (s1.trans0 s2).size
  refine Zc <| Zc <| Z0 <| Wm rfl rfl <| WL.val rfl rfl rfl (Z7w rfl Z00) <| WL.val rfl rfl rfl (Zby rfl rfl) <| Z6 <| Z4 ?_
  refine Z15 HF rfl (fun HF => ?_) (fun HF => ?_)
  · obtain rfl := Option.some.inj HF
    refine Zc <| Z0 ?_
    refine Zr (vs := [.slice none 0 0]) rfl rfl rfl rfl c34 (Z3 rfl Zx) ob2 S3.sub (by simp) (ds := [.slice none 0 0]) rfl (fun w5 s5 ob2 => ?_)
    refine Zr (vs := [.int .i64 0]) rfl rfl rfl rfl Z1s (Z3 rfl Zx) (ob3.step1 s5 n23.symm) s5.sub (by simp) (ds := [.int .i64 0]) rfl (fun w6 s6 ob3 => ?_)
    refine Zr (vs := [.int .i64 5]) rfl rfl rfl rfl Z5t (Z3 rfl Zx) ((ob4.step1 s5 n24.symm).step1 s6 n34.symm) s6.sub (by simp) (ds := [.int .i64 5]) rfl (fun w7 s7 ob4 => ?_)
    refine Z6 <| Z4 <| Z0b <| Zv ?_
    refine WQ.M0 (rg3 rfl (Z5x rfl (Z25 t_agg_34 (OB.cell ((ob2.step1 s6 n23).step1 s7 n24) (j := 0) rfl))) (Z5x rfl (Z25 Z04 (OB.cell (ob3.step1 s7 n34) (j := 0) rfl))) (Z5x rfl (Z25 Z5j (OB.cell ob4 (j := 0) rfl)))) ?_
    exact ⟨_, rfl, h0, ((S3.trans1 s5 (.inr g2)).trans1 s6 (.inr g3)).trans1 s7 (.inr g4), _, _, _, rfl, RS.nil _, rfl, rfl⟩
  refine Zq <| Z4 ?_
  refine Zc <| Z0 ?_
  refine Z19 (zs := [.slice none 0 0]) rfl rfl z34 rfl S3.sub (fun w5 b5 hb5 s5 ob5 => ?_)
  refine Z6 <| Z4 ?_
  have n25 := ob2.ne_new hb5
  have n35 := ob3.ne_new hb5
  have n45 := ob4.ne_new hb5
  have S5 := S3.trans0 s5
  have g5 : w0.heap.size ≤ b5 := by rw [hb5]; exact S3.size
  -- the scanner
  refine Zc <| Z0 <| Wm rfl rfl <| WL.val rfl rfl rfl (Z3b (vs := [(0, .string x1)]) (cs := [.string x1, .int .i64 0]) rfl (by kernel_rfl : tPlaces Tryz.prog 81 = some [(0, 1), (1, 1)]) (by kernel_rfl : tZero Tryz.prog 81 = some (.agg #[.string ⟨#[]⟩, .int .i64 0])) rfl) ?_
  refine WL.box (cs := [.string x1, .int .i64 0]) rfl rfl rfl rfl S5.sub (fun w6 b6 hb6 s6 ob6 => ?_)
  refine Wa rfl rfl <| Z6 <| Z4 ?_
  have S6 := S5.trans0 s6
  have n26 : b2 ≠ b6 := (ob2.step0 s5).ne_new hb6
  have n36 : b3 ≠ b6 := (ob3.step0 s5).ne_new hb6
  have n46 : b4 ≠ b6 := (ob4.step0 s5).ne_new hb6
  have n56 : b5 ≠ b6 := ob5.ne_new hb6
  have g6 : w0.heap.size ≤ b6 := by rw [hb6]; exact S5.size
  replace ob2 := (ob2.step0 s5).step0 s6
  replace ob3 := (ob3.step0 s5).step0 s6
  replace ob4 := (ob4.step0 s5).step0 s6
  replace ob5 := ob5.step0 s6
  -- its iterator
  refine Zc <| Zc <| Z0 <| Wm rfl rfl ?_
  refine Wc rfl (Zd (vs := [.pointer (some ⟨b6, 0, none⟩)]) rfl (by kernel_rfl)) (K := fun v w7 => ∃ b7, v = .func (.func 65) #[] #[.pointer (some ⟨b7, 0, none⟩)] ∧ w6.heap.size ≤ b7 ∧ Stp [] w6 h0 w7 h0 ∧ OB w7 h0 b7 79 [.pointer (some ⟨b6, 0, none⟩)]) ?_ ?_
  · refine Z4o (n := 4) Tryz.func41 rfl Tryz.ntmps41 rfl [(0, .pointer (some ⟨b6, 0, none⟩))] rfl ?_
    refine Zc <| Z0 ?_
    refine WL.box (cs := [.pointer (some ⟨b6, 0, none⟩)]) rfl rfl rfl rfl S6.sub (fun w7 b7 hb7 s7 ob7 => ?_)
    refine Wa rfl rfl <| Z6 <| Z4 <| Zc <| Z0 <| WL.val rfl rfl rfl (ov_makeFunc (vs := [.pointer (some ⟨b7, 0, none⟩)]) rfl) <| Wa rfl rfl <| Z6 <| Z4 <| Z0b <| Z07 rfl rfl ?_
    exact ⟨_, rfl, b7, rfl, by omega, s7, ob7⟩
  rintro _ w7 ⟨b7, rfl, hb7, s7, ob7⟩
  refine Z6 <| Z4 ?_
  have S7 := S6.trans0 s7
  have n67 : b6 ≠ b7 := ob6.ne_ge hb7
  have n27 : b2 ≠ b7 := ob2.ne_ge hb7
  have n37 : b3 ≠ b7 := ob3.ne_ge hb7
  have n47 : b4 ≠ b7 := ob4.ne_ge hb7
  have n57 : b5 ≠ b7 := ob5.ne_ge hb7
  replace ob2 := ob2.step0 s7
  replace ob3 := ob3.step0 s7
  replace ob4 := ob4.step0 s7
  replace ob5 := ob5.step0 s7
  replace ob6 := ob6.step0 s7
  -- the loop
  obtain ⟨q, hq, HF⟩ := Z5 HF
  refine Z0r <| WC.rangeFunc (lb := [.pointer (some ⟨b7, 0, none⟩)]) rfl (by kernel_rfl) rfl (fun a fn hat W1 hW1 => ?_)
  have sA : Stp [] w7 h0 (w7.alloc (.deferred (some []))) h0 := Zgv S7.sub _
  have sB : Stp [] w7 h0 W1 h0 := by rw [hW1]; exact sA.trans0 (Zgv sA.sub _)
  have hl1 : W1.heap[w7.heap.size + 1]? = some (.loop (Z4r fn a.tmps w7.heap.size .ready none)) := by
    rw [hW1]
    have := World.alloc_heap_new (w7.alloc (.deferred (some []))) (.loop (Z4r fn a.tmps w7.heap.size .ready none))
    rw [World.size_alloc] at this
    exact this
  have hD1 : W1.heap[w7.heap.size]? = some (.deferred (some [])) := by
    rw [hW1]; exact (Go.RowKit.Below.heap_alloc _ _ _ (by simp)).trans (World.alloc_heap_new w7 _)
  have hsz : W1.heap.size = w7.heap.size + 2 := by rw [hW1]; simp
  have z0 := S7.size
  have L : ∀ {b T : Nat} {cs : List Value}, OB w7 h0 b T cs → b < w7.heap.size := fun ob => ob.lt
  have k2 := L ob2
  have k3 := L ob3
  have k4 := L ob4
  have k5 := L ob5
  have k6 := L ob6
  have k7 := L ob7
  replace ob2 := ob2.step0 sB
  replace ob3 := ob3.step0 sB
  replace ob4 := ob4.step0 sB
  replace ob5 := ob5.step0 sB
  replace ob6 := ob6.step0 sB
  replace ob7 := ob7.step0 sB
  have hbase := S7.sub.big
  refine (Zfk k hq (l1 := w7.heap.size + 1) (J := TokJ (w7.heap.size + 1) w7.heap.size b2 b3 b4 b5 W1.heap.size (Z4r fn a.tmps w7.heap.size .ready none) (Z4r fn a.tmps w7.heap.size .done (some .ret))) (MY := [w7.heap.size + 1, b2, b3, b4, b5]) sB.sub ?_ (fun s w h M w1 h1 j st ym => j.step st ym) ?_ ob7 ob6 ⟨by omega, .slice none 0 0, hl1, hD1, ob5, RS.nil _, Own.nil _ _ _ _ _, ob2, ob3, ob4⟩ n67.symm (by simp; omega) (by simp; omega)).mono ?_
  · intro i hi
    simp only [List.mem_cons, List.not_mem_nil, or_false] at hi
    omega
  · intro s t n r w h cs hr j hge hs hR
    exact tok_round hat rfl rfl rfl rfl n23 n24 n34 n25 n35 n45 rfl (by omega) s t n r w h cs hr j hge hs hR
  rintro e w8 ⟨v, rfl, h8, s8, rfl, ob6, j⟩
  obtain ⟨_, vo, jl, jD, o5, rs, own, o2, o3, o4⟩ := j
  have S8 : Stp [] w0 h0 w8 h8 := (S7.trans0 sB).trans s8 (fun i hi => .inr (by
    simp only [List.cons_append, List.nil_append, List.mem_cons, List.not_mem_nil, or_false] at hi
    rcases hi with rfl | rfl | rfl | rfl | rfl | rfl <;> omega))
  have hb8 : h8.base ≤ w7.heap.size := by rw [S8.eqb]; exact Nat.le_trans hs0.big z0
  have lne : ∀ {b T : Nat} {cs : List Value}, OB w8 h8 b T cs → b ≠ w7.heap.size + 1 := fun ob q => by subst q; have q := ob.heap; rw [jl] at q; cases q
  have dne : ∀ {b T : Nat} {cs : List Value}, OB w8 h8 b T cs → b ≠ w7.heap.size := fun ob q => by subst q; have q := ob.heap; rw [jD] at q; cases q
  rcases hs2 : q.2.2 with _ | at_
  · -- all have come
    rw [hs2] at HF jl o3 o4
    obtain ⟨hlen, HF⟩ := Ze7 HF
    obtain rfl := Option.some.inj HF
    have s9 := Ze9 (o' := .loop { Z4r fn a.tmps w7.heap.size .ready none with state := .exhausted }) S8.sub jl rfl (by omega)
    refine ⟨_, none, _, rfl, run_endLoop jl (by simp [Z4r]), ?_⟩
    have jD9 : (w8.putObj (w7.heap.size + 1) (.loop { Z4r fn a.tmps w7.heap.size .ready none with state := .exhausted })).heap[w7.heap.size]? = some (.deferred (some [])) := (World.putObj_heap_other (by omega)).trans jD
    generalize hw9 : w8.putObj (w7.heap.size + 1) (.loop { Z4r fn a.tmps w7.heap.size .ready none with state := .exhausted }) = w9 at s9 jD9
    have S9 : Stp [] w0 h0 w9 h8 := S8.trans1 s9 (.inr (by omega))
    have p2 := o2.step1 s9 (lne o2)
    have p3 := o3.step1 s9 (lne o3)
    have p4 := o4.step1 s9 (lne o4)
    have p5 := o5.step1 s9 (lne o5)
    have own9 := own.step s9 (fun b hb => by
      simp only [List.mem_cons, List.not_mem_nil, or_false] at hb; subst hb
      intro q
      rcases own with ⟨rfl, _⟩ | ⟨g, cap, cur, rfl, hbg, hg, _⟩
      · simp [Value.ownBlock] at q
      · simp [Value.ownBlock] at q; subst q; rw [jl] at hg; cases hg)
    refine Zy <| Z4 <| Zc <| Z0 ?_
    refine WL.val rfl rfl rfl (Zb rfl t_agg_34 (OB.cell p5 (j := 0) rfl)) <| Wm rfl rfl <| WL.val rfl rfl rfl (Z7w rfl Z00) ?_
    refine WL.val rfl rfl rfl (Z3b (vs := [(0, .int .i64 7), (2, .int .i64 x1.size)]) (cs := [.int .i64 7, .string ⟨#[]⟩, .int .i64 x1.size]) rfl t_places_38 z38 rfl) ?_
    refine Z10 (us := [.agg #[.int .i64 7, .string ⟨#[]⟩, .int .i64 x1.size]]) (cs := [.int .i64 7, .string ⟨#[]⟩, .int .i64 x1.size]) rfl rfl rfl Zfr Z1q z38 rfl (Z0c rfl Zci) rfl rfl rfl s9.sub (fun wA hA bA hbA sA' hkA hcA => ?_)
    have rsA : RS hA (.slice (some ⟨bA, 0, none⟩) 1 1) ([⟨7, ⟨#[]⟩, (x1.size : Int)⟩] : List Tok) := RS.litL _ [[.int .i64 7, .string ⟨#[]⟩, .int .i64 x1.size]] rfl rfl hcA ⟨Z67.2 rfl, trivial⟩
    have ownA := own9.step0 sA'
    have SA := S9.trans0 sA'
    have zz := SA.size
    refine Zeu (xs := q.2.1) (ys := ([⟨7, ⟨#[]⟩, (x1.size : Int)⟩] : List Tok)) rfl rfl rfl rfl Zfr Z1q z38 rfl t_bytes_38 rfl ownA (rs.mono (s9.le.trans sA'.le)) rsA hlen sA'.sub (Nat.le_trans s8.size (Nat.le_trans s9.size sA'.size)) (by rw [SA.eqb]; exact Nat.le_trans hs0.big (by omega)) (fun vB wB hB rB owB sB' _ => ?_)
    have SB : Stp [] w0 h0 wB hB := SA.trans sB' (fun i hi => .inr (by have := ownA.base_le i hi; omega))
    have row : ∀ {b T : Nat} {cs : List Value}, OB wA hA b T cs → b ∉ vo.ownBlock.toList := fun ob hm => ownA.ne_obS (rs.mono (s9.le.trans sA'.le)) ob _ hm rfl
    replace p2 := (p2.step0 sA').step sB' (row (p2.step0 sA'))
    replace p3 := (p3.step0 sA').step sB' (row (p3.step0 sA'))
    replace p4 := (p4.step0 sA').step sB' (row (p4.step0 sA'))
    refine Zr (vs := [vB]) rfl rfl rfl (RS.cellsL rB) c34 (Z3 rB.one Zx) p2 sB'.sub (by simp) (ds := [vB]) rfl (fun wC sC p2 => ?_)
    refine Zr (vs := [.int .i64 0]) rfl rfl rfl rfl Z1s (Z3 rfl Zx) (p3.step1 sC n23.symm) sC.sub (by simp) (ds := [.int .i64 0]) rfl (fun wD sD p3 => ?_)
    refine Zr (vs := [.int .i64 0]) rfl rfl rfl rfl Z5t (Z3 rfl Zx) ((p4.step1 sC n24.symm).step1 sD n34.symm) sD.sub (by simp) (ds := [.int .i64 0]) rfl (fun wE sE p4 => ?_)
    refine Z6 <| Z4 <| Z0b ?_
    have SE := ((SB.trans1 sC (.inr g2)).trans1 sD (.inr g3)).trans1 sE (.inr g4)
    have jDE : wE.heap[w7.heap.size]? = some (.deferred (some [])) := by
      have y9 := (Array.getElem?_eq_some_iff.1 jD9).1
      have y1 := sA'.size
      have y2 := sB'.size
      have y3 := sC.size
      have y4 := sD.size
      have hrow : w7.heap.size ∉ vo.ownBlock.toList := fun hm => by have := own.base_le _ hm; omega
      rw [sE.block _ (by omega) (by simp; exact (dne o4).symm), sD.block _ (by omega) (by simp; exact (dne o3).symm), sC.block _ (by omega) (by simp; exact (dne o2).symm), sB'.block _ (by omega) hrow, sA'.block _ y9 (by simp)]
      exact jD9
    have sF := Ze9 (o' := .deferred none) SE.sub jDE rfl (by rw [SE.eqb]; exact Nat.le_trans hs0.big (by omega))
    refine WQ.M1 (D := w7.heap.size) jDE (rg3 rfl (Z5x rfl (Z25 t_agg_34 (OB.cell (((p2.step1 sD n23).step1 sE n24).step1 sF (dne o2)) (j := 0) rfl))) (Z5x rfl (Z25 Z04 (OB.cell ((p3.step1 sE n34).step1 sF (dne o3)) (j := 0) rfl))) (Z5x rfl (Z25 Z5j (OB.cell (p4.step1 sF (dne o4)) (j := 0) rfl)))) ?_
    exact ⟨_, rfl, hB, SE.trans1 sF (.inr (by omega)), _, _, _, rfl, rB.mono ((((sC.le).trans sD.le).trans sE.le).trans sF.le), rfl, rfl⟩
  · -- one has not come
    rw [hs2] at HF jl o3 o4
    obtain rfl := Option.some.inj HF
    have s9 := Ze9 (o' := .loop { Z4r fn a.tmps w7.heap.size .done (some .ret) with state := .exhausted }) S8.sub jl rfl (by omega)
    refine ⟨_, some .ret, _, rfl, run_endLoop jl (by simp [Z4r]), ?_⟩
    have jD9 : (w8.putObj (w7.heap.size + 1) (.loop { Z4r fn a.tmps w7.heap.size .done (some .ret) with state := .exhausted })).heap[w7.heap.size]? = some (.deferred (some [])) := (World.putObj_heap_other (by omega)).trans jD
    generalize hw9 : w8.putObj (w7.heap.size + 1) (.loop { Z4r fn a.tmps w7.heap.size .done (some .ret) with state := .exhausted }) = w9 at s9 jD9
    have S9 : Stp [] w0 h0 w9 h8 := S8.trans1 s9 (.inr (by omega))
    have sF := Ze9 (o' := .deferred none) S9.sub jD9 rfl hb8
    refine Z0b <| Z0k <| Zv ?_
    refine WQ.M1 (D := w7.heap.size) jD9 (rg3 rfl (Z5x rfl (Z25 t_agg_34 (OB.cell ((o2.step1 s9 (lne o2)).step1 sF (dne o2)) (j := 0) rfl))) (Z5x rfl (Z25 Z04 (OB.cell ((o3.step1 s9 (lne o3)).step1 sF (dne o3)) (j := 0) rfl))) (Z5x rfl (Z25 Z5j (OB.cell ((o4.step1 s9 (lne o4)).step1 sF (dne o4)) (j := 0) rfl)))) ?_
    exact ⟨_, rfl, h8, S9.trans1 sF (.inr (by omega)), _, _, _, rfl, RS.nil _, rfl, rfl⟩
def Zec (φ : Int → Int → Option Unit) : Prop := ∀ ⦃x3 : Int⦄ ⦃x7 : Int⦄ ⦃r : Unit⦄, φ x3 x7 = some r → ∀ ⦃w0 : World⦄ ⦃h0 : Hp⦄ ⦃b1 : Nat⦄ ⦃T2 : Nat⦄ ⦃b5 : Nat⦄ ⦃T6 : Nat⦄, Sub h0 w0 → OB w0 h0 b1 T2 [.int .i64 x3] → OB w0 h0 b5 T6 [.int .i64 x7] → b1 ≠ b5 →
  CallsD Tryz.prog 98 #[.pointer (some ⟨b1, 0, none⟩), .pointer (some ⟨b5, 0, none⟩)] .returning w0 fun e u w1 => u = .returning ∧ ∃ v, e = .returned v ∧ ∃ h1, Stp [] w0 h0 w1 h1 ∧ v = .tuple #[]
theorem s_parse_Source_1_ret (k : Nat) : Zec (Z9q k) := by
 intro x3 x7 r HF w0 h0 b1 T2 b5 T6 hs0 ob4 ob8 ne9
 have S0 : Stp [] w0 h0 w0 h0 := Stp.refl hs0 _
 have lt10 : b1 < w0.heap.size := OB.lt ob4
 have lt11 : b5 < w0.heap.size := OB.lt ob8
 refine enterR (n := 15) (dd := 5) (x := .nilIface) (.inl ⟨rfl, rfl, rfl⟩) Tryz.func98 rfl Tryz.ntmps98 rfl rfl [(5, .nilIface), (0, pt b1 0), (1, pt b5 0)] rfl <| Z0r <| Zc <| Z0 <| Wv rfl (ov_eqlNN rfl t_imeth_20) <| Z6 <| Z4 <| WC.condT rfl <| Z0 <| Wa rfl rfl <| Z6 <| Zy <| Z6j rfl ?_
 obtain rfl := Option.some.inj HF
 exact ⟨_, rfl, h0, S0, rfl⟩
theorem ok_parse_Source_1_ret (k : Nat) : Zec (Z9q k) := s_parse_Source_1_ret k
def C_parse_Source (φ : ByteArray → (List St) → Option (Int × Int × List St)) : Prop := ∀ ⦃x1 : ByteArray⦄ ⦃xs7 : List St⦄ ⦃r : Int × Int × List St⦄, φ x1 xs7 = some r → ∀ ⦃w0 : World⦄ ⦃h0 : Hp⦄ ⦃b2 : Nat⦄ ⦃T3 : Nat⦄ ⦃b5 : Nat⦄ ⦃T6 : Nat⦄ ⦃v8 : Value⦄, Sub h0 w0 → RS h0 v8 xs7 → OB w0 h0 b2 T3 [.func (.func 33) #[] #[]] → OB w0 h0 b5 T6 [v8] → b2 ≠ b5 →
  Calls Tryz.prog 54 #[.string x1, .func (.func 55) #[] #[.pointer (some ⟨b2, 0, none⟩), .pointer (some ⟨b5, 0, none⟩)]] w0 fun e w1 => ∃ v, e = .returned v ∧ ∃ h1, Stp [b5] w0 h0 w1 h1 ∧ (∃ u0 u1 : Value, v = .tuple #[u0, u1] ∧ (u0 = .int .i64 r.1) ∧ (u1 = .int .i64 r.2.1)) ∧ (∃ y0 : Value, RS h1 y0 r.2.2 ∧ OB w1 h1 b5 T6 [y0])
theorem s_parse_Source (k : Nat) : C_parse_Source (Zgp k) := by
 intro x1 xs7 r HF w0 h0 b2 T3 b5 T6 v8 hs0 rs9 ob4 ob10 ne11
 have S0 : Stp [b5] w0 h0 w0 h0 := Stp.refl hs0 _
 have lt12 : b2 < w0.heap.size := OB.lt ob4
 have lt13 : b5 < w0.heap.size := OB.lt ob10
 refine enterD (n := 27) Tryz.func54 rfl Tryz.ntmps54 rfl [(0, .string x1), (1, .func (.func 55) #[] #[pt b2 0, pt b5 0])] rfl <| Zc <| Z0 <| Z19 (zs := [vi 0]) rfl rfl t_zero_3 rfl S0.sub (fun w14 b15 hb16 s17 ob18 => ?_)
 have ne19 : b2 ≠ b15 := ob4.ne_new hb16
 have ne20 : b5 ≠ b15 := ob10.ne_new hb16
 have g21 : w0.heap.size ≤ b15 := by rw [hb16]; exact S0.size
 have S22 := S0.trans0 s17
 have ob23 := (ob4.step0 s17)
 have ob24 := (ob10.step0 s17)
 refine Z19 (zs := [vi 0]) rfl rfl t_zero_23 rfl S22.sub (fun w25 b26 hb27 s28 ob29 => ?_)
 have ne30 : b2 ≠ b26 := ob23.ne_new hb27
 have ne31 : b5 ≠ b26 := ob24.ne_new hb27
 have ne32 : b15 ≠ b26 := ob18.ne_new hb27
 have g33 : w0.heap.size ≤ b26 := by rw [hb27]; exact S22.size
 have S34 := S22.trans0 s28
 refine Z6 <| Z4 <| Zc <| Z0 <| Wm rfl rfl ?_
 obtain ⟨r35, hr36, HF⟩ := Z5 HF
 refine Wc rfl (Zd (vs := [.string x1]) rfl t_ent_18) (ok_lexis_Tokens _ hr36 S34.sub) ?_
 rintro _ w38 ⟨h39, s40, v41, _, _, rfl, rs42, rfl, rfl⟩
 have S43 := S34.trans0 s40
 refine Wm rfl rfl <| Wv rfl (Z0a rfl rfl) <| Wv rfl (Z0a rfl rfl) <| Wv rfl (Z0a rfl rfl) <| Wa rfl rfl ?_
 have ob44 := ((ob18.step0 s28).step0 s40)
 refine Zr (vs := [vi r35.2.1]) rfl rfl rfl rfl Z1s (Z3 rfl Zx) ob44 S43.sub (by simp) (ds := [vi r35.2.1]) rfl (fun w45 s46 ob47 => ?_)
 have S48 := S43.trans1 s46 (.inr g21)
 have ob49 := ((ob29.step0 s40).step1 s46 (Ne.symm ne32))
 refine Zr (vs := [vi r35.2.2]) rfl rfl rfl rfl Z5t (Z3 rfl Zx) ob49 S48.sub (by simp) (ds := [vi r35.2.2]) rfl (fun w50 s51 ob52 => ?_)
 have S53 := S48.trans1 s51 (.inr g33)
 refine Z6 <| Z4 <| Z09 (fun E w96 => ∃ (h95 : Hp), parse_Source_j1 k xs7 r35 = some r ∧ E = [(1, .func (.func 55) #[] #[pt b2 0, pt b5 0]), (4, pt b15 0), (5, pt b26 0), (6, v41)] ∧ Stp [b5] w0 h0 w96 h95 ∧ Hle h39 h95 ∧ OB w96 h95 b2 T3 [.func (.func 33) #[] #[]] ∧ OB w96 h95 b5 T6 [v8] ∧ OB w96 h95 b15 3 [vi r35.2.1] ∧ OB w96 h95 b26 23 [vi r35.2.2]) ?_ ?_
 ·rintro E w96 ⟨h95, HF, rfl, S98, le97, ob99, ob100, ob101, ob102⟩
  refine Zc <| Z0 <| Wv rfl (ov_makeFunc (vs := [pt b15 0, pt b26 0]) rfl) <| WL.defer rfl rfl <| Z6 <| Z4 <| Zc <| Z0 <| Wm rfl rfl ?_
  obtain ⟨A103, c104, rfl, rs105⟩ := RS.form (rs42.mono ((s46.le).trans ((s51.le).trans le97)))
  refine Wv rfl (Z3b (vs := [(0, .slice A103 (r35.1).length c104)]) (cs := [.slice A103 (r35.1).length c104, vi 0]) rfl t_places_140 t_zero_140 rfl) <| WL.box (cs := [.slice A103 (r35.1).length c104, vi 0]) rfl rfl rfl rfl S98.sub (fun w106 b107 hb108 s109 ob110 => ?_)
  have ne111 : b2 ≠ b107 := ob99.ne_new hb108
  have ne112 : b5 ≠ b107 := ob100.ne_new hb108
  have ne113 : b15 ≠ b107 := ob101.ne_new hb108
  have ne114 : b26 ≠ b107 := ob102.ne_new hb108
  have g115 : w0.heap.size ≤ b107 := by rw [hb108]; exact S98.size
  have S116 := S98.trans0 s109
  refine Wa rfl rfl <| Z6 <| Z4 <| Zc <| Z0 <| Wm rfl rfl <| Wm rfl rfl ?_
  have ob117 := (ob99.step0 s109)
  have ob118 := (ob100.step0 s109)
  obtain ⟨r119, hr120, HF⟩ := Z5 HF
  rcases r119 with t121 | r122
  ·replace HF := catchE_err HF
   refine Z0h rfl (oc_val (vs := [pt b107 0]) (caps := [pt b2 0, pt b5 0]) rfl rfl t_ent_55) (Za7 _ hr120 S116.sub (rs105.mono (s109.le)) (rs9.mono ((s17.le).trans ((s28.le).trans ((s40.le).trans ((s46.le).trans ((s51.le).trans ((le97).trans s109.le))))))) ob110 ob117 ob118 (Ne.symm ne111) (Ne.symm ne112) ne11) ?_
   rintro ch131 w132 ⟨rfl, h134, s135, ob127, ⟨v128, rs129, ob130⟩⟩
   refine Ze ?_
   have S136 := S116.trans s135 (Zl (.inr g115) (Zl (.inl (by simp)) Zt))
   have ob137 := ((ob101.step0 s109).step s135 (Z5w ne113 (Z5w (Ne.symm ne20) ni_nil)))
   have ob138 := ((ob102.step0 s109).step s135 (Z5w ne114 (Z5w (Ne.symm ne31) ni_nil)))
   obtain ⟨r139, hr140, HF⟩ := Z5 HF
   refine WQ.D1panic rfl t_ent_98 (Zbf _ hr140 S136.sub ob137 ob138 ne32) ?_
   have ob144 := (ob117.step s135 (Z5w ne111 (Z5w ne11 ni_nil)))
   rintro _ w141 ⟨h142, s143, rfl, ob145, ob146⟩
   have S147 := S136.trans s143 (Zl (.inr g21) (Zl (.inr g33) Zt))
   have ob148 := (ob130.step s143 (Z5w ne20 (Z5w ne31 ni_nil)))
   refine ⟨_, rg2 rfl (Z5x rfl (Z25 Z04 (OB.cell ob145 (j := 0) rfl))) (Z5x rfl (Z25 Z5j (OB.cell ob146 (j := 0) rfl))), ?_⟩
   obtain rfl := Option.some.inj HF
   exact ⟨_, rfl, h142, S147, ⟨_, _, rfl, rfl, rfl⟩, ⟨_, (rs129.mono (s143.le)), ob148⟩⟩
  replace HF := catchE_ok HF
  refine Wc rfl (oc_val (vs := [pt b107 0]) (caps := [pt b2 0, pt b5 0]) rfl rfl t_ent_55) (Za7 _ hr120 S116.sub (rs105.mono (s109.le)) (rs9.mono ((s17.le).trans ((s28.le).trans ((s40.le).trans ((s46.le).trans ((s51.le).trans ((le97).trans s109.le))))))) ob110 ob117 ob118 (Ne.symm ne111) (Ne.symm ne112) ne11) ?_
  rintro v123 w124 ⟨h125, s126, rfl, ob149, ⟨v150, rs151, ob152⟩⟩
  have S153 := S116.trans s126 (Zl (.inr g115) (Zl (.inl (by simp)) Zt))
  refine Z6 <| Z4 <| Zc <| Z0 <| Wm rfl rfl ?_
  obtain ⟨r154, hr155, HF⟩ := Z5 HF
  rcases r154 with t156 | r157
  ·replace HF := catchE_err HF
   refine Z0h rfl (Zd (vs := [pt b107 0, vi 7]) rfl Zhs) (Z2w _ hr155 S153.sub (rs105.mono ((s109.le).trans s126.le)) ob149) ?_
   rintro ch163 w164 ⟨rfl, h166, s167, ob162⟩
   refine Ze ?_
   have S168 := S153.trans s167 (Zl (.inr g115) Zt)
   have ob169 := (((ob101.step0 s109).step s126 (Z5w ne113 (Z5w (Ne.symm ne20) ni_nil))).step1 s167 ne113)
   have ob170 := (((ob102.step0 s109).step s126 (Z5w ne114 (Z5w (Ne.symm ne31) ni_nil))).step1 s167 ne114)
   obtain ⟨r171, hr172, HF⟩ := Z5 HF
   refine WQ.D1panic rfl t_ent_98 (Zbf _ hr172 S168.sub ob169 ob170 ne32) ?_
   have ob176 := ((ob117.step s126 (Z5w ne111 (Z5w ne11 ni_nil))).step1 s167 ne111)
   have ob177 := (ob152.step1 s167 ne112)
   rintro _ w173 ⟨h174, s175, rfl, ob178, ob179⟩
   have S180 := S168.trans s175 (Zl (.inr g21) (Zl (.inr g33) Zt))
   have ob181 := (ob177.step s175 (Z5w ne20 (Z5w ne31 ni_nil)))
   refine ⟨_, rg2 rfl (Z5x rfl (Z25 Z04 (OB.cell ob178 (j := 0) rfl))) (Z5x rfl (Z25 Z5j (OB.cell ob179 (j := 0) rfl))), ?_⟩
   obtain rfl := Option.some.inj HF
   exact ⟨_, rfl, h174, S180, ⟨_, _, rfl, rfl, rfl⟩, ⟨_, (rs151.mono ((s167.le).trans s175.le)), ob181⟩⟩
  replace HF := catchE_ok HF
  refine Wc rfl (Zd (vs := [pt b107 0, vi 7]) rfl Zhs) (Z2w _ hr155 S153.sub (rs105.mono ((s109.le).trans s126.le)) ob149) ?_
  rintro _ w159 ⟨h160, s161, rfl, ob182⟩
  have S183 := S153.trans s161 (Zl (.inr g115) Zt)
  refine Z6 <| Z4 <| Zc <| Z0 ?_
  have ob184 := (((ob101.step0 s109).step s126 (Z5w ne113 (Z5w (Ne.symm ne20) ni_nil))).step1 s161 ne113)
  refine Zr (vs := [vi 0]) rfl rfl rfl rfl Z1s (Z3 rfl Zx) ob184 S183.sub (by simp) (ds := [vi 0]) rfl (fun w185 s186 ob187 => ?_)
  have S188 := S183.trans1 s186 (.inr g21)
  have ob189 := ((((ob102.step0 s109).step s126 (Z5w ne114 (Z5w (Ne.symm ne31) ni_nil))).step1 s161 ne114).step1 s186 (Ne.symm ne32))
  refine Zr (vs := [vi 0]) rfl rfl rfl rfl Z5t (Z3 rfl Zx) ob189 S188.sub (by simp) (ds := [vi 0]) rfl (fun w190 s191 ob192 => ?_)
  have S193 := S188.trans1 s191 (.inr g33)
  refine Z6 <| Z4 <| Z0b ?_
  have ob194 := (ob187.step1 s191 ne32)
  obtain ⟨r195, hr196, HF⟩ := Z5 HF
  refine WQ.D1ret rfl t_ent_98 (ok_parse_Source_1_ret _ hr196 S193.sub ob194 ob192 ne32) ?_
  have ob200 := ((((ob117.step s126 (Z5w ne111 (Z5w ne11 ni_nil))).step1 s161 ne111).step1 s186 ne19).step1 s191 ne30)
  have ob201 := (((ob152.step1 s161 ne112).step1 s186 ne20).step1 s191 ne31)
  have ob202 := ((ob182.step1 s186 (Ne.symm ne113)).step1 s191 (Ne.symm ne114))
  rintro _ w197 ⟨h198, s199, rfl⟩
  have S203 := S193.trans0 s199
  have ob204 := (ob201.step0 s199)
  have ob205 := (ob194.step0 s199)
  have ob206 := (ob192.step0 s199)
  refine ⟨_, rg2 rfl (Z5x rfl (Z25 Z04 (OB.cell ob205 (j := 0) rfl))) (Z5x rfl (Z25 Z5j (OB.cell ob206 (j := 0) rfl))), ?_⟩
  obtain rfl := Option.some.inj HF
  exact ⟨_, rfl, h198, S203, ⟨_, _, rfl, rfl, rfl⟩, ⟨_, (rs151.mono ((s161.le).trans ((s186.le).trans ((s191.le).trans s199.le)))), ob204⟩⟩
 intro J207
 refine Zc <| Z0 <| Wv rfl (Zb rfl Z5j (OB.cell ob52 (j := 0) rfl)) <| Wv rfl (Zca rfl rfl) <| Z6 <| Z4 <| Z15 HF rfl (fun HF => ?_) (fun HF => ?_)
 ·refine Zc <| WC.drawnA Z6h S53.sub (fun w55 s56 => ?_)
  have S57 := S53.trans0 s56
  refine WA.two (i := 0) (j := 1) (by kernel_rfl) rfl rfl ?_ ?_
  ·skip
   have ob58 := ((ob47.step1 s51 ne32).step0 s56)
   refine Wv rfl (Zb rfl Z04 (OB.cell ob58 (j := 0) rfl)) <| Z6 <| Z1h <| WA.two (i := 1) (j := 2) (by kernel_rfl) rfl rfl ?_ ?_
   ·skip
    have ob59 := (ob52.step0 s56)
    refine Wv rfl (Zb rfl Z5j (OB.cell ob59 (j := 0) rfl)) <| Z6 <| Z1h <| WA.one (i := 2) (by kernel_rfl) rfl <| Zr (vs := [vi r35.2.1]) rfl rfl rfl rfl Z1s (Z3 rfl Zx) ob58 S57.sub (by simp) (ds := [vi r35.2.1]) rfl (fun w60 s61 ob62 => ?_)
    have S63 := S57.trans1 s61 (.inr g21)
    refine Z6 <| Z1h <| WA.one (i := 3) (by kernel_rfl) rfl ?_
    have ob64 := (ob59.step1 s61 (Ne.symm ne32))
    refine Zr (vs := [vi r35.2.2]) rfl rfl rfl rfl Z5t (Z3 rfl Zx) ob64 S63.sub (by simp) (ds := [vi r35.2.2]) rfl (fun w65 s66 ob67 => ?_)
    have S68 := S63.trans1 s66 (.inr g33)
    refine Z6 <| Z1h <| WA.fin (by kernel_rfl) <| Z4 <| Z0b <| Zv <| WQ.D0ret ?_
    have ob69 := (((((((ob24.step0 s28).step0 s40).step1 s46 ne20).step1 s51 ne31).step0 s56).step1 s61 ne20).step1 s66 ne31)
    have ob70 := (ob62.step1 s66 ne32)
    refine Zh4 (rg2 rfl (Z5x rfl (Z25 Z04 (OB.cell ob70 (j := 0) rfl))) (Z5x rfl (Z25 Z5j (OB.cell ob67 (j := 0) rfl)))) ?_
    obtain rfl := Option.some.inj HF
    exact ⟨_, rfl, h39, S68, ⟨_, _, rfl, rfl, rfl⟩, ⟨_, (rs9.mono ((s17.le).trans ((s28.le).trans ((s40.le).trans ((s46.le).trans ((s51.le).trans ((s56.le).trans ((s61.le).trans s66.le)))))))), ob69⟩⟩
   skip
   refine Zr (vs := [vi r35.2.1]) rfl rfl rfl rfl Z1s (Z3 rfl Zx) ob58 S57.sub (by simp) (ds := [vi r35.2.1]) rfl (fun w71 s72 ob73 => ?_)
   have S74 := S57.trans1 s72 (.inr g21)
   refine Z6 <| Z1h <| WA.one (i := 1) (by kernel_rfl) rfl ?_
   have ob75 := ((ob52.step0 s56).step1 s72 (Ne.symm ne32))
   refine Wv rfl (Zb rfl Z5j (OB.cell ob75 (j := 0) rfl)) <| Z6 <| Z1h <| WA.one (i := 3) (by kernel_rfl) rfl <| Zr (vs := [vi r35.2.2]) rfl rfl rfl rfl Z5t (Z3 rfl Zx) ob75 S74.sub (by simp) (ds := [vi r35.2.2]) rfl (fun w76 s77 ob78 => ?_)
   have S79 := S74.trans1 s77 (.inr g33)
   refine Z6 <| Z1h <| WA.fin (by kernel_rfl) <| Z4 <| Z0b <| Zv <| WQ.D0ret ?_
   have ob80 := (((((((ob24.step0 s28).step0 s40).step1 s46 ne20).step1 s51 ne31).step0 s56).step1 s72 ne20).step1 s77 ne31)
   have ob81 := (ob73.step1 s77 ne32)
   refine Zh4 (rg2 rfl (Z5x rfl (Z25 Z04 (OB.cell ob81 (j := 0) rfl))) (Z5x rfl (Z25 Z5j (OB.cell ob78 (j := 0) rfl)))) ?_
   obtain rfl := Option.some.inj HF
   exact ⟨_, rfl, h39, S79, ⟨_, _, rfl, rfl, rfl⟩, ⟨_, (rs9.mono ((s17.le).trans ((s28.le).trans ((s40.le).trans ((s46.le).trans ((s51.le).trans ((s56.le).trans ((s72.le).trans s77.le)))))))), ob80⟩⟩
  skip
  have ob82 := (ob52.step0 s56)
  refine Wv rfl (Zb rfl Z5j (OB.cell ob82 (j := 0) rfl)) <| Z6 <| Z1h <| WA.one (i := 0) (by kernel_rfl) rfl ?_
  have ob83 := ((ob47.step1 s51 ne32).step0 s56)
  refine Wv rfl (Zb rfl Z04 (OB.cell ob83 (j := 0) rfl)) <| Z6 <| Z1h <| WA.one (i := 2) (by kernel_rfl) rfl <| Zr (vs := [vi r35.2.1]) rfl rfl rfl rfl Z1s (Z3 rfl Zx) ob83 S57.sub (by simp) (ds := [vi r35.2.1]) rfl (fun w84 s85 ob86 => ?_)
  have S87 := S57.trans1 s85 (.inr g21)
  refine Z6 <| Z1h <| WA.one (i := 3) (by kernel_rfl) rfl ?_
  have ob88 := (ob82.step1 s85 (Ne.symm ne32))
  refine Zr (vs := [vi r35.2.2]) rfl rfl rfl rfl Z5t (Z3 rfl Zx) ob88 S87.sub (by simp) (ds := [vi r35.2.2]) rfl (fun w89 s90 ob91 => ?_)
  have S92 := S87.trans1 s90 (.inr g33)
  refine Z6 <| Z1h <| WA.fin (by kernel_rfl) <| Z4 <| Z0b <| Zv <| WQ.D0ret ?_
  have ob93 := (((((((ob24.step0 s28).step0 s40).step1 s46 ne20).step1 s51 ne31).step0 s56).step1 s85 ne20).step1 s90 ne31)
  have ob94 := (ob86.step1 s90 ne32)
  refine Zh4 (rg2 rfl (Z5x rfl (Z25 Z04 (OB.cell ob94 (j := 0) rfl))) (Z5x rfl (Z25 Z5j (OB.cell ob91 (j := 0) rfl)))) ?_
  obtain rfl := Option.some.inj HF
  exact ⟨_, rfl, h39, S92, ⟨_, _, rfl, rfl, rfl⟩, ⟨_, (rs9.mono ((s17.le).trans ((s28.le).trans ((s40.le).trans ((s46.le).trans ((s51.le).trans ((s56.le).trans ((s85.le).trans s90.le)))))))), ob93⟩⟩
 refine Zq ?_
 have ob208 := ((((ob23.step0 s28).step0 s40).step1 s46 ne19).step1 s51 ne30)
 have ob209 := ((((ob24.step0 s28).step0 s40).step1 s46 ne20).step1 s51 ne31)
 have ob210 := (ob47.step1 s51 ne32)
 refine Z01 [1, 4, 5, 6] _ rfl ?_
 exact J207 ⟨h39, HF, rfl, S53, Hle.refl _, ob208, ob209, ob210, ob52⟩
theorem ok_parse_Source (k : Nat) : C_parse_Source (Zgp k) := s_parse_Source k
def Zc9 (φ : ByteArray → Option (List St × Int × Int)) : Prop := ∀ ⦃x1 : ByteArray⦄ ⦃r : List St × Int × Int⦄, φ x1 = some r → ∀ ⦃w0 : World⦄ ⦃h0 : Hp⦄, Sub h0 w0 →
  Calls Tryz.prog 32 #[.string x1, .func (.func 33) #[] #[], .func (.func 34) #[] #[]] w0 fun e w1 => ∃ v, e = .returned v ∧ ∃ h1, Stp [] w0 h0 w1 h1 ∧ (∃ u0 u1 u2 : Value, v = .tuple #[u0, u1, u2] ∧ (RS h1 u0 r.1) ∧ (u1 = .int .i64 r.2.1) ∧ (u2 = .int .i64 r.2.2))
theorem s_syntax_read_api_Stmt (k : Nat) : Zc9 (Z87 k) := by
 intro x1 r HF w0 h0  hs0 
 have S0 : Stp [] w0 h0 w0 h0 := Stp.refl hs0 _
 refine Z4o (n := 33) Tryz.func32 rfl Tryz.ntmps32 rfl [(0, .string x1), (1, .func (.func 33) #[] #[]), (2, .func (.func 34) #[] #[])] rfl <| Zc <| Z0 <| WL.box (cs := [.func (.func 33) #[] #[]]) rfl rfl rfl rfl S0.sub (fun w2 b3 hb4 s5 ob6 => ?_)
 have g7 : w0.heap.size ≤ b3 := by rw [hb4]; exact S0.size
 have S8 := S0.trans0 s5
 refine Wa rfl rfl <| Wa rfl rfl <| Wa rfl rfl <| Z6 <| Z4 <| Zc <| Z0 <| Z19 (zs := [.slice none 0 0]) rfl rfl t_zero_22 rfl S8.sub (fun w9 b10 hb11 s12 ob13 => ?_)
 have ne14 : b3 ≠ b10 := ob6.ne_new hb11
 have g15 : w0.heap.size ≤ b10 := by rw [hb11]; exact S8.size
 have S16 := S8.trans0 s12
 refine Wa rfl rfl <| Z6 <| Z4 <| Zc <| Z0 <| Wm rfl rfl <| Wv rfl (ov_makeFunc (vs := [pt b3 0, pt b10 0]) rfl) ?_
 have ob17 := (ob6.step0 s12)
 obtain ⟨r18, hr19, HF⟩ := Z5 HF
 refine Wc rfl (Zd (vs := [.string x1, .func (.func 55) #[] #[pt b3 0, pt b10 0]]) rfl t_ent_54) (ok_parse_Source _ hr19 S16.sub (RS.nil _) ob17 ob13 ne14) ?_
 rintro _ w21 ⟨h22, s23, ⟨_, _, rfl, rfl, rfl⟩, ⟨v24, rs25, ob26⟩⟩
 have S27 := S16.trans s23 (Zl (.inr g15) Zt)
 refine Wm rfl rfl <| Wv rfl (Z0a rfl rfl) <| Wv rfl (Z0a rfl rfl) <| Wa rfl rfl <| Wa rfl rfl <| Z6 <| Z4 <| Z09 (fun E w49 => ∃ (h48 : Hp) (x52 : Int) (xs53 : List St) (v54 : Value), Z7s k r18 x52 xs53 = some r ∧ E = [(9, pt b10 0), (10, .slice none 0 0), (11, vi r18.1), (12, vi x52)] ∧ Stp [] w0 h0 w49 h48 ∧ Hle h22 h48 ∧ RS h48 v54 xs53 ∧ OB w49 h48 b10 22 [v54]) ?_ ?_
 ·rintro E w49 ⟨h48, x52, xs53, v54, HF, rfl, S51, le50, rs55, ob56⟩
  refine Z09 (fun E w59 => ∃ (h58 : Hp), Zb7 k xs53 = some r ∧ E = [(9, pt b10 0)] ∧ Stp [] w0 h0 w59 h58 ∧ Hle h48 h58 ∧ OB w59 h58 b10 22 [v54]) ?_ ?_
  ·rintro E w59 ⟨h58, HF, rfl, S61, le60, ob62⟩
   refine Zc <| Z0 <| Wv rfl (Zb rfl Z5q (OB.cell ob62 (j := 0) rfl)) <| Wa rfl rfl <| Wa rfl rfl <| Wa rfl rfl <| Z6 <| Z4 <| Z0b <| WQ.ret3 rfl rfl rfl rfl ?_
   obtain rfl := Option.some.inj HF
   exact ⟨_, rfl, h58, S61, _, _, _, rfl, (rs55.mono (le60)), rfl, rfl⟩
  intro J63
  refine Zc <| Z0 <| Wm rfl rfl <| Wv rfl (Zca rfl rfl) <| Z6 <| Z4 <| Z15 HF rfl (fun HF => ?_) (fun HF => ?_)
  ·refine Zc <| Z0 <| Wm rfl rfl <| Wm rfl rfl <| Wm rfl rfl <| Wa rfl rfl <| Wa rfl rfl <| Wa rfl rfl <| Z6 <| Z4 <| Z0b <| Zv <| WQ.ret3 rfl rfl rfl rfl ?_
   obtain rfl := Option.some.inj HF
   exact ⟨_, rfl, h48, S51, _, _, _, rfl, (RS.nil _), rfl, rfl⟩
  refine Zq <| Z01 [9] _ rfl ?_
  exact J63 ⟨h48, HF, rfl, S51, Hle.refl _, ob56⟩
 intro J64
 refine Z09 (fun E w37 => ∃ (h36 : Hp) (x40 : Bool) (xs41 : List St) (v42 : Value), Z7t k r18 x40 xs41 = some r ∧ E = [(9, pt b10 0), (10, .slice none 0 0), (11, vi r18.1), (12, vi r18.2.1), (26, .bool x40)] ∧ Stp [] w0 h0 w37 h36 ∧ Hle h22 h36 ∧ RS h36 v42 xs41 ∧ OB w37 h36 b10 22 [v42]) ?_ ?_
 ·rintro E w37 ⟨h36, x40, xs41, v42, HF, rfl, S39, le38, rs43, ob44⟩
  refine Z15 HF rfl (fun HF => ?_) (fun HF => ?_)
  ·refine Z0 <| Wa rfl rfl <| Z6 <| Z01 [9, 10, 11, 12] _ rfl ?_
   exact J64 ⟨h36, 5, xs41, v42, HF, rfl, S39, le38, rs43, ob44⟩
  refine Zq <| Z01 [9, 10, 11, 12] _ rfl ?_
  exact J64 ⟨h36, r18.2.1, xs41, v42, HF, rfl, S39, le38, rs43, ob44⟩
 intro J46
 refine Z0 <| Wm rfl rfl <| Wv rfl (Z1g rfl rfl) <| Wm rfl rfl <| Z27 21 HF rfl (fun HF => ?_) (fun HF => ?_)
 ·refine Wm rfl rfl <| Wv rfl (Zb rfl Z5q (OB.cell ob26 (j := 0) rfl)) ?_
  obtain ⟨r29, hr30, HF⟩ := Z5 HF
  refine Wc rfl (oc_val (vs := [v24]) (caps := []) rfl rfl t_ent_34) (ok_ast_IsText _ hr30 S27.sub rs25) ?_
  rintro _ w32 ⟨h33, s34, rfl⟩
  have S35 := S27.trans0 s34
  refine Wv rfl (Z30 rfl) <| Wv rfl (Zj rfl rfl) <| Z6 ?_
  have ob47 := (ob26.step0 s34)
  refine Z01 [9, 10, 11, 12, 26] _ rfl ?_
  exact J46 ⟨h33, !r29, r18.2.2, v24, HF, rfl, S35, s34.le, (rs25.mono (s34.le)), ob47⟩
 refine Wp rfl <| Wp rfl <| Wp rfl <| Wp rfl <| Wv rfl (Zi rfl rfl) <| Z6 <| Z01 [9, 10, 11, 12, 26] _ rfl ?_
 exact J46 ⟨h22, false, r18.2.2, v24, HF, rfl, S27, Hle.refl _, rs25, ob26⟩
theorem Zhm (k : Nat) : Zc9 (Z87 k) := s_syntax_read_api_Stmt k
def C_syntax_Text (φ : ByteArray → Option (List St × Int × Int)) : Prop := ∀ ⦃x1 : ByteArray⦄ ⦃r : List St × Int × Int⦄, φ x1 = some r → ∀ ⦃w0 : World⦄ ⦃h0 : Hp⦄, Sub h0 w0 →
  Calls Tryz.prog 12 #[.string x1] w0 fun e w1 => ∃ v, e = .returned v ∧ ∃ h1, Stp [] w0 h0 w1 h1 ∧ (∃ u0 u1 u2 : Value, v = .tuple #[u0, u1, u2] ∧ (RS h1 u0 r.1) ∧ (u1 = .int .i64 r.2.1) ∧ (u2 = .int .i64 r.2.2))
theorem s_syntax_Text (k : Nat) : C_syntax_Text (Zep k) := by
 intro x1 r HF w0 h0  hs0 
 have S0 : Stp [] w0 h0 w0 h0 := Stp.refl hs0 _
 refine Z4o (n := 10) Tryz.func12 rfl Tryz.ntmps12 rfl [(0, .string x1)] rfl <| Zc <| Z0 <| Wa rfl rfl <| Wa rfl rfl <| Wa rfl rfl <| Z6 <| Z4 <| Zc <| Z0 <| Wm rfl rfl ?_
 obtain ⟨r2, hr3, HF⟩ := Z5 HF
 refine Wc rfl (Zd (vs := [.string x1, .func (.func 33) #[] #[], .func (.func 34) #[] #[]]) rfl t_ent_32) (Zhm _ hr3 S0.sub) ?_
 rintro _ w5 ⟨h6, s7, v8, _, _, rfl, rs9, rfl, rfl⟩
 have S10 := S0.trans0 s7
 refine Wv rfl (Z0a rfl rfl) <| Wv rfl (Z0a rfl rfl) <| Wv rfl (Z0a rfl rfl) <| Wa rfl rfl <| Wa rfl rfl <| Wa rfl rfl <| Z6 <| Z4 <| Z0b <| WQ.ret3 rfl rfl rfl rfl ?_
 obtain rfl := Option.some.inj HF
 exact ⟨_, rfl, h6, S10, _, _, _, rfl, rs9, rfl, rfl⟩
theorem ok_syntax_Text (k : Nat) : C_syntax_Text (Zep k) := s_syntax_Text k
def C_law02_awake (φ : Option Bool) : Prop := ∀ ⦃r : Bool⦄, φ  = some r → ∀ ⦃w0 : World⦄ ⦃h0 : Hp⦄, Sub h0 w0 →
  Calls Tryz.prog 16 #[] w0 fun e w1 => ∃ v, e = .returned v ∧ ∃ h1, Stp [] w0 h0 w1 h1 ∧ v = .bool r
theorem s_law02_awake (k : Nat) : C_law02_awake (Z8g k) := by
 intro  r HF w0 h0  hs0 
 have S0 : Stp [] w0 h0 w0 h0 := Stp.refl hs0 _
 refine Z4o (n := 53) Tryz.func16 rfl Tryz.ntmps16 rfl [] rfl <| Zc <| Z0 <| Wa rfl rfl <| Z6 <| Z4 <| Zc <| Z0 ?_
 obtain ⟨r1, hr2, HF⟩ := Z5 HF
 refine Wc rfl (Zd (vs := [.string (⟨#[120, 32, 58, 61, 32, 49, 32, 43, 32, 50, 32, 42, 32, 51, 59]⟩ : ByteArray)]) rfl t_ent_12) (ok_syntax_Text _ hr2 S0.sub) ?_
 rintro _ w4 ⟨h5, s6, v7, _, _, rfl, rs8, rfl, rfl⟩
 have S9 := S0.trans0 s6
 refine Wm rfl rfl <| Wv rfl (Z0a rfl rfl) <| Wv rfl (Z0a rfl rfl) <| Wv rfl (Z0a rfl rfl) <| Wa rfl rfl <| Wa rfl rfl <| Wa rfl rfl <| Z6 <| Z4 <| Zc <| Z0 <| Wm rfl rfl ?_
 obtain ⟨r10, hr11, HF⟩ := Z5 HF
 refine Wc rfl (Zd (vs := [v7]) rfl t_ent_21) (ok_syntax_Nodes _ hr11 S9.sub rs8) ?_
 rintro _ w13 ⟨h14, s15, _, _, _, rfl, rfl, rfl, rfl⟩
 have S16 := S9.trans0 s15
 refine Wm rfl rfl <| Wv rfl (Z0a rfl rfl) <| Wv rfl (Z0a rfl rfl) <| Wv rfl (Z0a rfl rfl) <| Wa rfl rfl <| Wa rfl rfl <| Wa rfl rfl <| Z6 <| Z4 <| Zc <| Z0 ?_
 obtain ⟨r17, hr18, HF⟩ := Z5 HF
 refine Wc rfl (Zd (vs := [.string (⟨#[105, 102, 32, 97, 32, 116, 104, 101, 110, 32, 120, 32, 58, 61, 32, 49, 59]⟩ : ByteArray)]) rfl t_ent_12) (ok_syntax_Text _ hr18 S16.sub) ?_
 rintro _ w20 ⟨h21, s22, v23, _, _, rfl, rs24, rfl, rfl⟩
 have S25 := S16.trans0 s22
 refine Wm rfl rfl <| Wv rfl (Z0a rfl rfl) <| Wv rfl (Z0a rfl rfl) <| Wv rfl (Z0a rfl rfl) <| Wa rfl rfl <| Wa rfl rfl <| Wa rfl rfl <| Z6 <| Z4 <| Z09 (fun E w43 => ∃ (h42 : Hp), law02_awake_j2 k  = some r ∧ E = [] ∧ Stp [] w0 h0 w43 h42 ∧ Hle h21 h42) ?_ ?_
 ·rintro E w43 ⟨h42, HF, rfl, S45, le44⟩
  refine Zc <| Z0 <| Wa rfl rfl <| Z6 <| Z4 <| Z0b <| Z07 rfl rfl ?_
  obtain rfl := Option.some.inj HF
  exact ⟨_, rfl, h42, S45, rfl⟩
 intro J46
 refine Z09 (fun E w36 => ∃ (h35 : Hp) (x39 : Bool), Z62 k x39 = some r ∧ E = [(52, .bool x39)] ∧ Stp [] w0 h0 w36 h35 ∧ Hle h21 h35) ?_ ?_
 ·rintro E w36 ⟨h35, x39, HF, rfl, S38, le37⟩
  refine Z15 HF rfl (fun HF => ?_) (fun HF => ?_)
  ·refine Zc <| Z0 <| Wa rfl rfl <| Z6 <| Z4 <| Z0b <| Zv <| Z07 rfl rfl ?_
   obtain rfl := Option.some.inj HF
   exact ⟨_, rfl, h35, S38, rfl⟩
  refine Zq <| Z01 [] _ rfl ?_
  exact J46 ⟨h35, HF, rfl, S38, le37⟩
 intro J41
 refine Z0 <| Wm rfl rfl <| Wv rfl (Zca rfl rfl) <| Wm rfl rfl <| Z27 28 HF rfl (fun HF => ?_) (fun HF => ?_)
 ·refine Wp rfl <| Wp rfl <| Wp rfl <| Wv rfl (Zj rfl rfl) <| Wm rfl rfl <| Wp rfl <| Wp rfl <| Wv rfl (Zj rfl rfl) <| Wm rfl rfl <| Wp rfl <| Wp rfl <| Wv rfl (Zj rfl rfl) <| Wm rfl rfl <| Wp rfl <| Wp rfl <| Wv rfl (Zj rfl rfl) <| Wm rfl rfl <| Wp rfl <| Wp rfl <| Wv rfl (Zj rfl rfl) <| Wm rfl rfl <| Wp rfl <| Wp rfl <| Wv rfl (Zj rfl rfl) <| Z6 <| Z01 [52] _ rfl ?_
  exact J41 ⟨h21, true, HF, rfl, S25, Hle.refl _⟩
 refine Wm rfl rfl ?_
 obtain ⟨A27, c28, rfl, rs29⟩ := RS.form (rs8.mono ((s15.le).trans s22.le))
 refine Wv rfl (Z1i rfl Z24) <| Wv rfl (Zca rfl rfl) <| Wv rfl (Zi rfl rfl) <| Wm rfl rfl <| Z27 33 HF rfl (fun HF => ?_) (fun HF => ?_)
 ·refine Wp rfl <| Wp rfl <| Wv rfl (Zj rfl rfl) <| Wm rfl rfl <| Wp rfl <| Wp rfl <| Wv rfl (Zj rfl rfl) <| Wm rfl rfl <| Wp rfl <| Wp rfl <| Wv rfl (Zj rfl rfl) <| Wm rfl rfl <| Wp rfl <| Wp rfl <| Wv rfl (Zj rfl rfl) <| Wm rfl rfl <| Wp rfl <| Wp rfl <| Wv rfl (Zj rfl rfl) <| Z6 <| Z01 [52] _ rfl ?_
  exact J41 ⟨h21, true, HF, rfl, S25, Hle.refl _⟩
 refine Wm rfl rfl <| Wv rfl (Zca rfl rfl) <| Wv rfl (Zi rfl rfl) <| Wm rfl rfl <| Z27 37 HF rfl (fun HF => ?_) (fun HF => ?_)
 ·refine Wp rfl <| Wp rfl <| Wv rfl (Zj rfl rfl) <| Wm rfl rfl <| Wp rfl <| Wp rfl <| Wv rfl (Zj rfl rfl) <| Wm rfl rfl <| Wp rfl <| Wp rfl <| Wv rfl (Zj rfl rfl) <| Wm rfl rfl <| Wp rfl <| Wp rfl <| Wv rfl (Zj rfl rfl) <| Z6 <| Z01 [52] _ rfl ?_
  exact J41 ⟨h21, true, HF, rfl, S25, Hle.refl _⟩
 refine Wm rfl rfl <| Wv rfl (Zca rfl rfl) <| Wv rfl (Zi rfl rfl) <| Wm rfl rfl <| Z27 41 HF rfl (fun HF => ?_) (fun HF => ?_)
 ·refine Wp rfl <| Wp rfl <| Wv rfl (Zj rfl rfl) <| Wm rfl rfl <| Wp rfl <| Wp rfl <| Wv rfl (Zj rfl rfl) <| Wm rfl rfl <| Wp rfl <| Wp rfl <| Wv rfl (Zj rfl rfl) <| Z6 <| Z01 [52] _ rfl ?_
  exact J41 ⟨h21, true, HF, rfl, S25, Hle.refl _⟩
 refine Wm rfl rfl <| Wv rfl (Zca rfl rfl) <| Wv rfl (Zi rfl rfl) <| Wm rfl rfl <| Z27 45 HF rfl (fun HF => ?_) (fun HF => ?_)
 ·refine Wp rfl <| Wp rfl <| Wv rfl (Zj rfl rfl) <| Wm rfl rfl <| Wp rfl <| Wp rfl <| Wv rfl (Zj rfl rfl) <| Z6 <| Z01 [52] _ rfl ?_
  exact J41 ⟨h21, true, HF, rfl, S25, Hle.refl _⟩
 refine Wm rfl rfl <| Wv rfl (Zca rfl rfl) <| Wv rfl (Zi rfl rfl) <| Wm rfl rfl <| Z27 49 HF rfl (fun HF => ?_) (fun HF => ?_)
 ·refine Wp rfl <| Wp rfl <| Wv rfl (Zj rfl rfl) <| Z6 <| Z01 [52] _ rfl ?_
  exact J41 ⟨h21, true, HF, rfl, S25, Hle.refl _⟩
 refine Wm rfl rfl <| Wv rfl (Zca rfl rfl) <| Wv rfl (Zi rfl rfl) <| Z6 <| Z01 [52] _ rfl ?_
 exact J41 ⟨h21, (r17.2.1 : Int) != 17, HF, rfl, S25, Hle.refl _⟩
theorem Zgt (k : Nat) : C_law02_awake (Z8g k) := s_law02_awake k
def Zed (φ : (List St) → Option Bool) : Prop := ∀ ⦃xs1 : List St⦄ ⦃r : Bool⦄, φ xs1 = some r → ∀ ⦃w0 : World⦄ ⦃h0 : Hp⦄ ⦃v2 : Value⦄, Sub h0 w0 → RS h0 v2 xs1 →
  Calls Tryz.prog 6 #[v2] w0 fun e w1 => ∃ v, e = .returned v ∧ ∃ h1, Stp [] w0 h0 w1 h1 ∧ v = .bool r
theorem s_law02_SyntaxChecks (k : Nat) : Zed (Z7i k) := by
 intro xs1 r HF w0 h0 v2 hs0 rs3
 have S0 : Stp [] w0 h0 w0 h0 := Stp.refl hs0 _
 refine Z4o (n := 63) Tryz.func6 rfl Tryz.ntmps6 rfl [(0, v2)] rfl <| Zc <| Z0 <| Wa rfl rfl <| Z6 <| Z4 <| Z09 (fun E w20 => ∃ (h19 : Hp), Z91 k xs1 = some r ∧ E = [(0, v2)] ∧ Stp [] w0 h0 w20 h19 ∧ Hle h0 h19) ?_ ?_
 ·rintro E w20 ⟨h19, HF, rfl, S22, le21⟩
  refine Zc <| Z0 <| Wm rfl rfl ?_
  obtain ⟨r23, hr24, HF⟩ := Z5 HF
  refine Wc rfl (Zd (vs := [v2]) rfl t_ent_20) (ok_syntax_Check _ hr24 S22.sub (rs3.mono (le21))) ?_
  rintro _ w26 ⟨h27, s28, rfl⟩
  have S29 := S22.trans0 s28
  refine Wa rfl rfl <| Z6 <| Z4 <| Zc <| Z0 <| Wm rfl rfl ?_
  obtain ⟨r30, hr31, HF⟩ := Z5 HF
  refine Wc rfl (Zd (vs := [v2]) rfl t_ent_21) (ok_syntax_Nodes _ hr31 S29.sub (rs3.mono ((le21).trans s28.le))) ?_
  rintro _ w33 ⟨h34, s35, _, _, _, rfl, rfl, rfl, rfl⟩
  have S36 := S29.trans0 s35
  refine Wm rfl rfl <| Wv rfl (Z0a rfl rfl) <| Wv rfl (Z0a rfl rfl) <| Wv rfl (Z0a rfl rfl) <| Wa rfl rfl <| Wa rfl rfl <| Wa rfl rfl <| Z6 <| Z4 <| Z09 (fun E w57 => ∃ (h56 : Hp), Z98 k xs1 r23 r30 = some r ∧ E = [(0, v2), (3, vi r23), (4, vi r30.1), (5, vi r30.2.1), (6, vi r30.2.2)] ∧ Stp [] w0 h0 w57 h56 ∧ Hle h34 h56) ?_ ?_
  ·rintro E w57 ⟨h56, HF, rfl, S59, le58⟩
   refine Zc <| Z0 <| Wm rfl rfl ?_
   obtain ⟨r60, hr61, HF⟩ := Z5 HF
   refine Wc rfl (Zd (vs := [v2]) rfl t_ent_22) (ok_ref02_Measure _ hr61 S59.sub (rs3.mono ((le21).trans ((s28.le).trans ((s35.le).trans le58))))) ?_
   rintro _ w63 ⟨h64, s65, rfl⟩
   have S66 := S59.trans0 s65
   refine Z19 (zs := [vi 0, vi 0, .bool false]) rfl rfl t_zero_43 rfl S66.sub (fun w67 b68 hb69 s70 ob71 => ?_)
   have g72 : w0.heap.size ≤ b68 := by rw [hb69]; exact S66.size
   have S73 := S66.trans0 s70
   refine Zr (vs := [vi r60.1, vi r60.2.1, .bool r60.2.2]) rfl rfl rfl rfl t_size_43 (Z3 rfl (Z3 rfl (Z3 rfl Zx))) ob71 S73.sub (by simp) (ds := [vi r60.1, vi r60.2.1, .bool r60.2.2]) rfl (fun w74 s75 ob76 => ?_)
   have S77 := S73.trans1 s75 (.inr g72)
   refine Z6 <| Z4 <| Zc <| Z0 <| Wm rfl rfl <| Wv rfl (Z1g rfl rfl) <| Wm rfl rfl <| Z27 44 HF rfl (fun HF => ?_) (fun HF => ?_)
   ·refine Wm rfl rfl <| Wv rfl (Z1 rfl Zgc) <| Wv rfl (Zb rfl Z04 (OB.cell ob76 (j := 0) rfl)) <| Wv rfl (Z1g rfl rfl) <| Wv rfl (Zj rfl rfl) <| Wm rfl rfl <| Z27 50 HF rfl (fun HF => ?_) (fun HF => ?_)
    ·refine Wm rfl rfl <| Wv rfl (Z1 rfl t_field_43_1) <| Wv rfl (Zb rfl Z04 (OB.cell ob76 (j := 1) rfl)) <| Wv rfl (Z1g rfl rfl) <| Wv rfl (Zj rfl rfl) <| Wm rfl rfl <| Z27 56 HF rfl (fun HF => ?_) (fun HF => ?_)
     ·refine Wm rfl rfl <| Wv rfl (Z1g rfl rfl) <| Wv rfl (Zj rfl rfl) <| Wm rfl rfl <| Z27 60 HF rfl (fun HF => ?_) (fun HF => ?_)
      ·obtain ⟨r82, hr83, HF⟩ := Z5 HF
       refine Wc rfl (Zd (vs := []) rfl t_ent_16) (Zgt _ hr83 S77.sub) ?_
       rintro _ w85 ⟨h86, s87, rfl⟩
       have S88 := S77.trans0 s87
       refine Wv rfl (Zj rfl rfl) <| Wa rfl rfl <| Z6 <| Z4 <| Z0b <| Z07 rfl rfl ?_
       obtain rfl := Option.some.inj HF
       exact ⟨_, rfl, h86, S88, rfl⟩
      refine Wp rfl <| Wv rfl (Zi rfl rfl) <| Wa rfl rfl <| Z6 <| Z4 <| Z0b <| Z07 rfl rfl ?_
      obtain rfl := Option.some.inj HF
      exact ⟨_, rfl, h64, S77, rfl⟩
     refine Wp rfl <| Wp rfl <| Wv rfl (Zi rfl rfl) <| Wm rfl rfl <| Wp rfl <| Wv rfl (Zi rfl rfl) <| Wa rfl rfl <| Z6 <| Z4 <| Z0b <| Z07 rfl rfl ?_
     obtain rfl := Option.some.inj HF
     exact ⟨_, rfl, h64, S77, rfl⟩
    refine Wp rfl <| Wp rfl <| Wp rfl <| Wp rfl <| Wv rfl (Zi rfl rfl) <| Wm rfl rfl <| Wp rfl <| Wp rfl <| Wv rfl (Zi rfl rfl) <| Wm rfl rfl <| Wp rfl <| Wv rfl (Zi rfl rfl) <| Wa rfl rfl <| Z6 <| Z4 <| Z0b <| Z07 rfl rfl ?_
    obtain rfl := Option.some.inj HF
    exact ⟨_, rfl, h64, S77, rfl⟩
   refine Wp rfl <| Wp rfl <| Wp rfl <| Wp rfl <| Wv rfl (Zi rfl rfl) <| Wm rfl rfl <| Wp rfl <| Wp rfl <| Wp rfl <| Wp rfl <| Wv rfl (Zi rfl rfl) <| Wm rfl rfl <| Wp rfl <| Wp rfl <| Wv rfl (Zi rfl rfl) <| Wm rfl rfl <| Wp rfl <| Wv rfl (Zi rfl rfl) <| Wa rfl rfl <| Z6 <| Z4 <| Z0b <| Z07 rfl rfl ?_
   obtain rfl := Option.some.inj HF
   exact ⟨_, rfl, h64, S77, rfl⟩
  intro J89
  refine Zc <| Z0 <| Wm rfl rfl ?_
  obtain ⟨r37, hr38, HF⟩ := Z5 HF
  refine Wc rfl (Zd (vs := [v2]) rfl t_ent_17) (ok_ref02_Well _ hr38 S36.sub (rs3.mono ((le21).trans ((s28.le).trans s35.le)))) ?_
  rintro _ w40 ⟨h41, s42, rfl⟩
  have S43 := S36.trans0 s42
  refine Wv rfl (Z30 rfl) <| Z6 <| Z4 <| Z15 HF rfl (fun HF => ?_) (fun HF => ?_)
  ·refine Zc <| Z0 <| Wm rfl rfl <| Wv rfl (Z1g rfl rfl) <| Wm rfl rfl <| Z27 25 HF rfl (fun HF => ?_) (fun HF => ?_)
   ·refine Wm rfl rfl <| Wv rfl (Z1g rfl rfl) <| Wv rfl (Zj rfl rfl) <| Wm rfl rfl <| Z27 29 HF rfl (fun HF => ?_) (fun HF => ?_)
    ·refine Wm rfl rfl <| Wv rfl (Z1g rfl rfl) <| Wv rfl (Zj rfl rfl) <| Wm rfl rfl <| Z27 33 HF rfl (fun HF => ?_) (fun HF => ?_)
     ·refine Wm rfl rfl <| Wv rfl (Z1g rfl rfl) <| Wv rfl (Zj rfl rfl) <| Wm rfl rfl <| Z27 37 HF rfl (fun HF => ?_) (fun HF => ?_)
      ·obtain ⟨r49, hr50, HF⟩ := Z5 HF
       refine Wc rfl (Zd (vs := []) rfl t_ent_16) (Zgt _ hr50 S43.sub) ?_
       rintro _ w52 ⟨h53, s54, rfl⟩
       have S55 := S43.trans0 s54
       refine Wv rfl (Zj rfl rfl) <| Wa rfl rfl <| Z6 <| Z4 <| Z0b <| Zv <| Z07 rfl rfl ?_
       obtain rfl := Option.some.inj HF
       exact ⟨_, rfl, h53, S55, rfl⟩
      refine Wp rfl <| Wv rfl (Zi rfl rfl) <| Wa rfl rfl <| Z6 <| Z4 <| Z0b <| Zv <| Z07 rfl rfl ?_
      obtain rfl := Option.some.inj HF
      exact ⟨_, rfl, h41, S43, rfl⟩
     refine Wp rfl <| Wp rfl <| Wv rfl (Zi rfl rfl) <| Wm rfl rfl <| Wp rfl <| Wv rfl (Zi rfl rfl) <| Wa rfl rfl <| Z6 <| Z4 <| Z0b <| Zv <| Z07 rfl rfl ?_
     obtain rfl := Option.some.inj HF
     exact ⟨_, rfl, h41, S43, rfl⟩
    refine Wp rfl <| Wp rfl <| Wv rfl (Zi rfl rfl) <| Wm rfl rfl <| Wp rfl <| Wp rfl <| Wv rfl (Zi rfl rfl) <| Wm rfl rfl <| Wp rfl <| Wv rfl (Zi rfl rfl) <| Wa rfl rfl <| Z6 <| Z4 <| Z0b <| Zv <| Z07 rfl rfl ?_
    obtain rfl := Option.some.inj HF
    exact ⟨_, rfl, h41, S43, rfl⟩
   refine Wp rfl <| Wp rfl <| Wv rfl (Zi rfl rfl) <| Wm rfl rfl <| Wp rfl <| Wp rfl <| Wv rfl (Zi rfl rfl) <| Wm rfl rfl <| Wp rfl <| Wp rfl <| Wv rfl (Zi rfl rfl) <| Wm rfl rfl <| Wp rfl <| Wv rfl (Zi rfl rfl) <| Wa rfl rfl <| Z6 <| Z4 <| Z0b <| Zv <| Z07 rfl rfl ?_
   obtain rfl := Option.some.inj HF
   exact ⟨_, rfl, h41, S43, rfl⟩
  refine Zq <| Z01 [0, 3, 4, 5, 6] _ rfl ?_
  exact J89 ⟨h41, HF, rfl, S43, s42.le⟩
 intro J90
 refine Zc <| Z0 <| Wm rfl rfl ?_
 obtain ⟨r4, hr5, HF⟩ := Z5 HF
 refine Wc rfl (Zd (vs := [v2]) rfl t_ent_19) (ok_law02_small _ hr5 S0.sub rs3) ?_
 rintro _ w7 ⟨h8, s9, rfl⟩
 have S10 := S0.trans0 s9
 refine Wv rfl (Z30 rfl) <| Z6 <| Z4 <| Z15 HF rfl (fun HF => ?_) (fun HF => ?_)
 ·refine Zc <| Z0 ?_
  obtain ⟨r12, hr13, HF⟩ := Z5 HF
  refine Wc rfl (Zd (vs := []) rfl t_ent_16) (Zgt _ hr13 S10.sub) ?_
  rintro _ w15 ⟨h16, s17, rfl⟩
  have S18 := S10.trans0 s17
  refine Wa rfl rfl <| Z6 <| Z4 <| Z0b <| Zv <| Z07 rfl rfl ?_
  obtain rfl := Option.some.inj HF
  exact ⟨_, rfl, h16, S18, rfl⟩
 refine Zq <| Z01 [0] _ rfl ?_
 exact J90 ⟨h8, HF, rfl, S10, s9.le⟩
theorem ok_law02_SyntaxChecks (k : Nat) : Zed (Z7i k) := s_law02_SyntaxChecks k
end Go.Proofs.YtkodnhngllfemaaGreatDoor
