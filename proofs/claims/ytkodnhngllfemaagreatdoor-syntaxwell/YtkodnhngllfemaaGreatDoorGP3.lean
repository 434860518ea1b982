import Derived.Test.YtkodnhngllfemaaGreatDoorE0
import Derived.Test.YtkodnhngllfemaaGreatDoorGP2
set_option linter.unusedVariables false
set_option linter.unusedSimpArgs false
set_option maxRecDepth 20000
set_option maxHeartbeats 4000000
namespace Go.Proofs.YtkodnhngllfemaaGreatDoor
open Go
def C_lexis_scanner_span_v2 (φ : ByteArray → Int → Int → Option ByteArray) : Prop := ∀ ⦃x3 : ByteArray⦄ ⦃x4 : Int⦄ ⦃x6 : Int⦄ ⦃r : ByteArray⦄, φ x3 x4 x6 = some r → ∀ ⦃w0 : World⦄ ⦃h0 : Hp⦄ ⦃b1 : Nat⦄ ⦃T2 : Nat⦄, Sub h0 w0 → OB w0 h0 b1 T2 [.string x3, .int .i64 x4] →
  Calls Tryz.prog 125 #[.pointer (some ⟨b1, 0, none⟩), .int .i64 x6, .func (.func 127) #[] #[]] w0 fun e w1 => ∃ v, e = .returned v ∧ ∃ h1, Stp [] w0 h0 w1 h1 ∧ v = .string r
theorem s_lexis_scanner_span_v2 (k : Nat) (IH : ∀ j, j ≤ k → C_lexis_scanner_span_v2 (tie_lexis_scanner_span_v2 j).lexis_scanner_span_v2) : C_lexis_scanner_span_v2 (m_lexis_scanner_span_v2 k (tie_lexis_scanner_span_v2 k)) := by
 intro x3 x4 x6 r HF w0 h0 b1 T2 hs0 ob5
 have S0 : Stp [] w0 h0 w0 h0 := Stp.refl hs0 _
 have lt7 : b1 < w0.heap.size := OB.lt ob5
 refine enter (n := 49) Tryz.func125 rfl Tryz.ntmps125 rfl [(0, pt b1 0), (1, vi x6), (2, .func (.func 127) #[] #[])] rfl <| WC.seq <| WC.region <| Wa rfl rfl <| WL.nil <| WQ.seqN <| WC.seq <| WC.drawn (m := 11) [(0, pt b1 0), (1, vi x6), (2, .func (.func 127) #[] #[])] [0, 1, 2] rfl (fun i v w h => match i with | 0 => v = pt b1 0 | 1 => v = pt b1 0 | 2 => v = pt b1 1 | 3 => v = vi x4 | 4 => v = vi x6 | 5 => v = vi (IntKind.i64.wrap (x4 + x6)) | 6 => v = pt b1 0 | 7 => v = pt b1 0 | 8 => v = pt b1 0 | 9 => v = .string x3 | 10 => v = vi (x3.size : Int) | _ => True) t_mixed S0.sub rfl rfl rfl rfl rfl ?_ ?_ ?_
 ·intro i v w h w2 h2 hΦ hst
  match i, hΦ with
  | 0, hΦ | 1, hΦ | 2, hΦ | 3, hΦ | 4, hΦ | 5, hΦ | 6, hΦ | 7, hΦ | 8, hΦ | 9, hΦ | 10, hΦ => exact hΦ
  | i + 11, _ => exact trivial
 ·refine ⟨?_, ?_, ?_, ?_, ?_, ?_, ?_, ?_, ?_, ?_, ?_, trivial⟩
  ·intro a w8 h9 s10 hat hF
   exact front_val hat rfl (ov_move rfl) s10.sub (by exact rfl)
  ·intro a w8 h9 s10 hat hF
   exact front_val (At.cons hat (hF 0 8 rfl rfl)) rfl (ov_nilCheck rfl) s10.sub (by exact rfl)
  ·intro a w8 h9 s10 hat hF
   exact front_val (At.cons hat (hF 1 9 rfl rfl)) rfl (ov_fieldAddr rfl t_field_81_1) s10.sub (by exact rfl)
  ·intro a w8 h9 s10 hat hF
   have ob11 := (ob5.step0 s10)
   exact front_val (At.cons hat (hF 2 10 rfl rfl)) rfl (ov_load1 rfl t_agg_3 (OB.cell ob11 (j := 1) rfl)) s10.sub (by exact rfl)
  ·intro a w8 h9 s10 hat hF
   exact front_val hat rfl (ov_move rfl) s10.sub (by exact rfl)
  ·intro a w8 h9 s10 hat hF
   exact front_val (At.cons (At.cons hat (hF 3 11 rfl rfl)) (hF 4 12 rfl rfl)) rfl (ov_add rfl rfl) s10.sub (by exact rfl)
  ·intro a w8 h9 s10 hat hF
   exact front_val hat rfl (ov_move rfl) s10.sub (by exact rfl)
  ·intro a w8 h9 s10 hat hF
   exact front_val (At.cons hat (hF 6 14 rfl rfl)) rfl (ov_nilCheck rfl) s10.sub (by exact rfl)
  ·intro a w8 h9 s10 hat hF
   exact front_val (At.cons hat (hF 7 15 rfl rfl)) rfl (ov_fieldAddr rfl t_field_81_0) s10.sub (by exact rfl)
  ·intro a w8 h9 s10 hat hF
   have ob12 := (ob5.step0 s10)
   exact front_val (At.cons hat (hF 8 16 rfl rfl)) rfl (ov_load1 rfl t_agg_9 (OB.cell ob12 (j := 0) rfl)) s10.sub (by exact rfl)
  intro a w8 h9 s10 hat hF
  exact front_val (At.cons hat (hF 9 17 rfl rfl)) rfl (ov_lenS rfl t_string_9) s10.sub (by exact rfl)
 intro a w8 h9 s10 hat hF
 obtain hv0 := hF 0 8 (by decide) rfl
 obtain hv1 := hF 1 9 (by decide) rfl
 obtain hv2 := hF 2 10 (by decide) rfl
 obtain hv3 := hF 3 11 (by decide) rfl
 obtain hv4 := hF 4 12 (by decide) rfl
 obtain hv5 := hF 5 13 (by decide) rfl
 obtain hv6 := hF 6 14 (by decide) rfl
 obtain hv7 := hF 7 15 (by decide) rfl
 obtain hv8 := hF 8 16 (by decide) rfl
 obtain hv9 := hF 9 17 (by decide) rfl
 obtain hv10 := hF 10 18 (by decide) rfl
 refine WL.at_ [(18, vi (x3.size : Int)), (17, .string x3), (16, pt b1 0), (15, pt b1 0), (14, pt b1 0), (13, vi (IntKind.i64.wrap (x4 + x6))), (12, vi x6), (11, vi x4), (10, pt b1 1), (9, pt b1 0), (8, pt b1 0), (0, pt b1 0), (1, vi x6), (2, .func (.func 127) #[] #[])] (At.cons (At.cons (At.cons (At.cons (At.cons (At.cons (At.cons (At.cons (At.cons (At.cons (At.cons hat hv0) hv1) hv2) hv3) hv4) hv5) hv6) hv7) hv8) hv9) hv10) ?_
 have S13 := S0.trans0 s10
 refine Wv rfl (ov_min rfl rfl) <| Wa rfl rfl <| WL.nil <| WQ.seqN <| WC.seq <| WC.block <| WC.loop <| WP.to [0, 2, 7] [(0, pt b1 0), (2, .func (.func 127) #[] #[]), (7, vi (imin (IntKind.i64.wrap (x4 + x6)) (x3.size : Int)))] rfl <| WP_rule (K := k) (fun j E w15 => ∃ (h14 : Hp) (x18 : Int), (tie_lexis_scanner_span_v2 j).lexis_scanner_span_v2_l1 x3 x4 x18 = some r ∧ E = [(0, pt b1 0), (2, .func (.func 127) #[] #[]), (7, vi x18)] ∧ Stp [] w0 h0 w15 h14 ∧ Hle h9 h14 ∧ OB w15 h14 b1 T2 [.string x3, vi x4]) ?_ ?_ (j := k) (Nat.le_refl _) ?_
 ·rintro E w15 ⟨_, _, HF, _⟩; cases HF
 ·rintro j20 hj22 IHL21 E w15 ⟨h14, x18, HF, rfl, S17, le16, ob19⟩
  refine WC.join (fun E w51 => ∃ (h50 : Hp), lexis_scanner_span_v2_j3 j20 (tie_lexis_scanner_span_v2 j20) x3 x4 x18 = some r ∧ E = [(0, pt b1 0), (2, .func (.func 127) #[] #[]), (7, vi x18)] ∧ Stp [] w0 h0 w51 h50 ∧ Hle h14 h50 ∧ OB w51 h50 b1 T2 [.string x3, vi x4]) ?_ ?_
  ·rintro E w51 ⟨h50, HF, rfl, S53, le52, ob54⟩
   refine WC.block <| WC.region <| Wm rfl rfl <| Wv rfl (ov_add rfl rfl) <| Wa rfl rfl <| WL.nil <| WQ.blockN <| WQ.loopN <| WP.to [0, 2, 7] [(0, pt b1 0), (2, .func (.func 127) #[] #[]), (7, vi (IntKind.i64.wrap (x18 + 1)))] rfl ?_
   exact IHL21 j20 (Nat.le_refl _) _ _ ⟨h50, IntKind.i64.wrap (x18 + 1), HF, rfl, S53, (le16).trans le52, ob54⟩
  intro J55
  refine WC.join (fun E w34 => ∃ (h33 : Hp) (x37 : Bool), lexis_scanner_span_v2_j2 j20 (tie_lexis_scanner_span_v2 j20) x3 x4 x18 x37 = some r ∧ E = [(0, pt b1 0), (2, .func (.func 127) #[] #[]), (7, vi x18), (36, .bool x37)] ∧ Stp [] w0 h0 w34 h33 ∧ Hle h14 h33 ∧ OB w34 h33 b1 T2 [.string x3, vi x4]) ?_ ?_
  ·rintro E w34 ⟨h33, x37, HF, rfl, S36, le35, ob38⟩
   refine WC.cF HF rfl (fun HF => ?_) (fun HF => ?_)
   ·refine WC.skip <| WC.to [0, 2, 7] _ rfl ?_
    exact J55 ⟨h33, HF, rfl, S36, le35, ob38⟩
   refine WC.exit <| WQ.thenExit <| WQ.thenExit <| WQ.blockHit <| WQ.seqN <| WC.seq <| WC.drawn (m := 9) [(0, pt b1 0), (7, vi x18)] [0, 7] rfl (fun i v w h => match i with | 0 => v = pt b1 0 | 1 => v = pt b1 0 | 2 => v = pt b1 0 | 3 => v = .string x3 | 4 => v = pt b1 0 | 5 => v = pt b1 0 | 6 => v = pt b1 1 | 7 => v = vi x4 | 8 => v = vi x18 | _ => True) t_mixed S36.sub rfl rfl rfl rfl rfl ?_ ?_ ?_
   ·intro i v w h w2 h2 hΦ hst
    match i, hΦ with
    | 0, hΦ | 1, hΦ | 2, hΦ | 3, hΦ | 4, hΦ | 5, hΦ | 6, hΦ | 7, hΦ | 8, hΦ => exact hΦ
    | i + 9, _ => exact trivial
   ·refine ⟨?_, ?_, ?_, ?_, ?_, ?_, ?_, ?_, ?_, trivial⟩
    ·intro a w40 h41 s42 hat hF
     exact front_val hat rfl (ov_move rfl) s42.sub (by exact rfl)
    ·intro a w40 h41 s42 hat hF
     exact front_val (At.cons hat (hF 0 39 rfl rfl)) rfl (ov_nilCheck rfl) s42.sub (by exact rfl)
    ·intro a w40 h41 s42 hat hF
     exact front_val (At.cons hat (hF 1 40 rfl rfl)) rfl (ov_fieldAddr rfl t_field_81_0) s42.sub (by exact rfl)
    ·intro a w40 h41 s42 hat hF
     have ob43 := (ob38.step0 s42)
     exact front_val (At.cons hat (hF 2 41 rfl rfl)) rfl (ov_load1 rfl t_agg_9 (OB.cell ob43 (j := 0) rfl)) s42.sub (by exact rfl)
    ·intro a w40 h41 s42 hat hF
     exact front_val hat rfl (ov_move rfl) s42.sub (by exact rfl)
    ·intro a w40 h41 s42 hat hF
     exact front_val (At.cons hat (hF 4 43 rfl rfl)) rfl (ov_nilCheck rfl) s42.sub (by exact rfl)
    ·intro a w40 h41 s42 hat hF
     exact front_val (At.cons hat (hF 5 44 rfl rfl)) rfl (ov_fieldAddr rfl t_field_81_1) s42.sub (by exact rfl)
    ·intro a w40 h41 s42 hat hF
     have ob44 := (ob38.step0 s42)
     exact front_val (At.cons hat (hF 6 45 rfl rfl)) rfl (ov_load1 rfl t_agg_3 (OB.cell ob44 (j := 1) rfl)) s42.sub (by exact rfl)
    intro a w40 h41 s42 hat hF
    exact front_val hat rfl (ov_move rfl) s42.sub (by exact rfl)
   intro a w40 h41 s42 hat hF
   obtain hv0 := hF 0 39 (by decide) rfl
   obtain hv1 := hF 1 40 (by decide) rfl
   obtain hv2 := hF 2 41 (by decide) rfl
   obtain hv3 := hF 3 42 (by decide) rfl
   obtain hv4 := hF 4 43 (by decide) rfl
   obtain hv5 := hF 5 44 (by decide) rfl
   obtain hv6 := hF 6 45 (by decide) rfl
   obtain hv7 := hF 7 46 (by decide) rfl
   obtain hv8 := hF 8 47 (by decide) rfl
   refine WL.at_ [(47, vi x18), (46, vi x4), (45, pt b1 1), (44, pt b1 0), (43, pt b1 0), (42, .string x3), (41, pt b1 0), (40, pt b1 0), (39, pt b1 0), (0, pt b1 0), (7, vi x18)] (At.cons (At.cons (At.cons (At.cons (At.cons (At.cons (At.cons (At.cons (At.cons hat hv0) hv1) hv2) hv3) hv4) hv5) hv6) hv7) hv8) ?_
   have S45 := S36.trans0 s42
   obtain ⟨t46, ht47, HF⟩ := bind_some HF
   refine Wv rfl (ov_sliceSLH rfl rfl rfl t_string_9 ht47) <| Wa rfl rfl <| WL.nil <| WQ.seqN <| WC.ret <| WQ.ret1 rfl rfl ?_
   obtain rfl := Option.some.inj HF
   exact ⟨_, rfl, h41, S45, rfl⟩
  intro J48
  refine WC.region <| Wm rfl rfl <| Wm rfl rfl <| Wv rfl (ov_nilCheck rfl) <| Wv rfl (ov_fieldAddr rfl t_field_81_0) <| Wv rfl (ov_load1 rfl t_agg_9 (OB.cell ob19 (j := 0) rfl)) <| Wv rfl (ov_lenS rfl t_string_9) <| Wv rfl (ov_lss rfl rfl) <| Wm rfl rfl <| WL.sF 27 HF rfl (fun HF => ?_) (fun HF => ?_)
  ·refine Wm rfl rfl <| Wm rfl rfl <| Wv rfl (ov_nilCheck rfl) <| Wv rfl (ov_fieldAddr rfl t_field_81_0) <| Wv rfl (ov_load1 rfl t_agg_9 (OB.cell ob19 (j := 0) rfl)) <| Wm rfl rfl ?_
   obtain ⟨c24, hc25, HF⟩ := bind_some HF
   refine Wv rfl (ov_indexSO rfl rfl t_string_9 hc25) ?_
   obtain ⟨r26, hr27, HF⟩ := bind_some HF
   refine Wc rfl (oc_val (vs := [.int .u8 c24]) (caps := []) rfl rfl t_ent_127) (ok_lexis_scanner_address_1 _ hr27 S17.sub) ?_
   rintro _ w29 ⟨h30, s31, rfl⟩
   have S32 := S17.trans0 s31
   refine Wv rfl (ov_pickT rfl rfl) <| WL.nil ?_
   have ob49 := (ob19.step0 s31)
   refine WC.to [0, 2, 7, 36] _ rfl ?_
   exact J48 ⟨h30, r26, HF, rfl, S32, s31.le, ob49⟩
  refine Wp rfl <| Wp rfl <| Wp rfl <| Wp rfl <| Wp rfl <| Wp rfl <| Wp rfl <| Wp rfl <| Wv rfl (ov_pickF rfl rfl) <| WL.nil <| WC.to [0, 2, 7, 36] _ rfl ?_
  exact J48 ⟨h14, false, HF, rfl, S17, Hle.refl _, ob19⟩
 have ob56 := (ob5.step0 s10)
 exact ⟨h9, imin (IntKind.i64.wrap (x4 + x6)) (x3.size : Int), HF, rfl, S13, Hle.refl _, ob56⟩
theorem all_lexis_scanner_span_v2 : ∀ k j, j ≤ k → C_lexis_scanner_span_v2 (tie_lexis_scanner_span_v2 j).lexis_scanner_span_v2 := by
  intro k
  induction k with
  | zero =>
    intro j hj
    obtain rfl : j = 0 := by omega
    exact (fun _ _ _ _ => by intro h; cases h)
  | succ k ih =>
    intro j hj
    by_cases h : j ≤ k
    · exact ih j h
    · obtain rfl : j = k + 1 := by omega
      exact s_lexis_scanner_span_v2 k ih
theorem ok_lexis_scanner_span_v2 (k : Nat) : C_lexis_scanner_span_v2 (F_lexis_scanner_span_v2 k) := (all_lexis_scanner_span_v2 k k (Nat.le_refl _))

def C_strings_IndexByte (φ : ByteArray → Int → Option Int) : Prop := ∀ ⦃x1 : ByteArray⦄ ⦃x2 : Int⦄ ⦃r : Int⦄, φ x1 x2 = some r → ∀ ⦃w0 : World⦄ ⦃h0 : Hp⦄, Sub h0 w0 →
  Calls Tryz.prog 153 #[.string x1, .int .u8 x2] w0 fun e w1 => ∃ v, e = .returned v ∧ ∃ h1, Stp [] w0 h0 w1 h1 ∧ v = .int .i64 r
theorem ok_strings_IndexByte (k : Nat) : C_strings_IndexByte (F_strings_IndexByte k) := by
  intro x1 x2 r HF w0 h0 hs0
  simp only [F_strings_IndexByte] at HF
  cases HF
  refine (Tryz.strings_IndexByte x1 x2 w0).mono ?_
  rintro e w1 ⟨rfl, rfl⟩
  exact ⟨_, rfl, h0, Stp.refl hs0 _, rfl⟩

def C_lexis_IsAddress (φ : ByteArray → Option Bool) : Prop := ∀ ⦃x1 : ByteArray⦄ ⦃r : Bool⦄, φ x1 = some r → ∀ ⦃w0 : World⦄ ⦃h0 : Hp⦄, Sub h0 w0 →
  Calls Tryz.prog 94 #[.string x1] w0 fun e w1 => ∃ v, e = .returned v ∧ ∃ h1, Stp [] w0 h0 w1 h1 ∧ v = .bool r
theorem s_lexis_IsAddress (k : Nat) : C_lexis_IsAddress (F_lexis_IsAddress k) := by
 intro x1 r HF w0 h0  hs0 
 have S0 : Stp [] w0 h0 w0 h0 := Stp.refl hs0 _
 refine enter (n := 22) Tryz.func94 rfl Tryz.ntmps94 rfl [(0, .string x1)] rfl <| WC.seq <| WC.region <| Wa rfl rfl <| WL.nil <| WQ.seqN <| WC.seq <| WC.region <| Wm rfl rfl <| Wv rfl (ov_lenS rfl t_string_9) <| Wv rfl (ov_gtr rfl rfl) <| Wm rfl rfl <| WL.sF 6 HF rfl (fun HF => ?_) (fun HF => ?_)
 ·refine Wm rfl rfl ?_
  obtain ⟨c3, hc4, HF⟩ := bind_some HF
  refine Wv rfl (ov_indexSO rfl rfl t_string_9 hc4) <| Wv rfl (ov_eql rfl rfl) <| Wv rfl (ov_pickT rfl rfl) <| Wm rfl rfl <| WL.sF 11 HF rfl (fun HF => ?_) (fun HF => ?_)
  ·refine Wm rfl rfl ?_
   obtain ⟨c6, hc7, HF⟩ := bind_some HF
   refine Wv rfl (ov_indexSO rfl rfl t_string_9 hc7) ?_
   obtain ⟨r8, hr9, HF⟩ := bind_some HF
   refine Wc rfl (oc_func (vs := [.string (⟨#[105, 113, 109]⟩ : ByteArray), .int .u8 c6]) rfl t_ent_153) (ok_strings_IndexByte _ hr9 S0.sub) ?_
   rintro _ w11 ⟨h12, s13, rfl⟩
   have S14 := S0.trans0 s13
   refine Wv rfl (ov_geq rfl rfl) <| Wv rfl (ov_pickT rfl rfl) <| Wm rfl rfl <| WL.sF 17 HF rfl (fun HF => ?_) (fun HF => ?_)
   ·refine Wm rfl rfl ?_
    obtain ⟨t16, ht17, HF⟩ := bind_some HF
    refine Wv rfl (ov_sliceSL rfl rfl t_string_9 ht17) ?_
    obtain ⟨r18, hr19, HF⟩ := bind_some HF
    refine Wc rfl (oc_func (vs := [.string t16, vi 63]) rfl t_ent_90) (ok_lexis_isNumeral _ hr19 S14.sub) ?_
    rintro _ w21 ⟨h22, s23, rfl⟩
    have S24 := S14.trans0 s23
    refine Wv rfl (ov_pickT rfl rfl) <| Wa rfl rfl <| WL.nil <| WQ.seqN <| WC.ret <| WQ.ret1 rfl rfl ?_
    obtain rfl := Option.some.inj HF
    exact ⟨_, rfl, h22, S24, rfl⟩
   refine Wp rfl <| Wp rfl <| Wp rfl <| Wv rfl (ov_pickF rfl rfl) <| Wa rfl rfl <| WL.nil <| WQ.seqN <| WC.ret <| WQ.ret1 rfl rfl ?_
   obtain rfl := Option.some.inj HF
   exact ⟨_, rfl, h12, S14, rfl⟩
  refine Wp rfl <| Wp rfl <| Wp rfl <| Wp rfl <| Wv rfl (ov_pickF rfl rfl) <| Wm rfl rfl <| Wp rfl <| Wp rfl <| Wp rfl <| Wv rfl (ov_pickF rfl rfl) <| Wa rfl rfl <| WL.nil <| WQ.seqN <| WC.ret <| WQ.ret1 rfl rfl ?_
  obtain rfl := Option.some.inj HF
  exact ⟨_, rfl, h0, S0, rfl⟩
 refine Wp rfl <| Wp rfl <| Wp rfl <| Wv rfl (ov_pickF rfl rfl) <| Wm rfl rfl <| Wp rfl <| Wp rfl <| Wp rfl <| Wp rfl <| Wv rfl (ov_pickF rfl rfl) <| Wm rfl rfl <| Wp rfl <| Wp rfl <| Wp rfl <| Wv rfl (ov_pickF rfl rfl) <| Wa rfl rfl <| WL.nil <| WQ.seqN <| WC.ret <| WQ.ret1 rfl rfl ?_
 obtain rfl := Option.some.inj HF
 exact ⟨_, rfl, h0, S0, rfl⟩
theorem ok_lexis_IsAddress (k : Nat) : C_lexis_IsAddress (F_lexis_IsAddress k) := s_lexis_IsAddress k

def C_lexis_scanner_address (φ : ByteArray → Int → Option (Tok × Int)) : Prop := ∀ ⦃x3 : ByteArray⦄ ⦃x4 : Int⦄ ⦃r : Tok × Int⦄, φ x3 x4 = some r → ∀ ⦃w0 : World⦄ ⦃h0 : Hp⦄ ⦃b1 : Nat⦄ ⦃T2 : Nat⦄, Sub h0 w0 → OB w0 h0 b1 T2 [.string x3, .int .i64 x4] →
  Calls Tryz.prog 74 #[.pointer (some ⟨b1, 0, none⟩)] w0 fun e w1 => ∃ v, e = .returned v ∧ ∃ h1, Stp [] w0 h0 w1 h1 ∧ (∃ u0 u1 : Value, v = .tuple #[u0, u1] ∧ (∃ cs : List Value, u0 = .agg cs.toArray ∧ Rp.R h1 r.1 cs) ∧ (u1 = .int .i64 r.2))
theorem s_lexis_scanner_address (k : Nat) : C_lexis_scanner_address (F_lexis_scanner_address k) := by
 intro x3 x4 r HF w0 h0 b1 T2 hs0 ob5
 have S0 : Stp [] w0 h0 w0 h0 := Stp.refl hs0 _
 have lt6 : b1 < w0.heap.size := OB.lt ob5
 refine enter (n := 13) Tryz.func74 rfl Tryz.ntmps74 rfl [(0, pt b1 0)] rfl <| WC.seq <| WC.region <| WL.alloc (zs := [vi 0, .string b'110, vi 0]) rfl rfl t_zero_38 rfl S0.sub (fun w7 b8 hb9 s10 ob11 => ?_)
 have ne12 : b1 ≠ b8 := ob5.ne_new hb9
 have g13 : w0.heap.size ≤ b8 := by rw [hb9]; exact S0.size
 have S14 := S0.trans0 s10
 refine Wa rfl rfl <| WL.nil <| WQ.seqN <| WC.seq <| WC.region <| Wm rfl rfl ?_
 have ob15 := (ob5.step0 s10)
 obtain ⟨r16, hr17, HF⟩ := bind_some HF
 refine Wc rfl (oc_func (vs := [pt b1 0, vi 1, .func (.func 127) #[] #[]]) rfl t_ent_125) (ok_lexis_scanner_span_v2 _ hr17 S14.sub ob15) ?_
 rintro _ w19 ⟨h20, s21, rfl⟩
 have S22 := S14.trans0 s21
 refine Wa rfl rfl <| WL.nil <| WQ.seqN <| WC.seq <| WC.region <| Wm rfl rfl <| Wm rfl rfl ?_
 obtain ⟨r23, hr24, HF⟩ := bind_some HF
 refine Wc rfl (oc_func (vs := [.string r16]) rfl t_ent_94) (ok_lexis_IsAddress _ hr24 S22.sub) ?_
 rintro _ w26 ⟨h27, s28, rfl⟩
 have S29 := S22.trans0 s28
 obtain ⟨r30, hr31, HF⟩ := bind_some HF
 refine Wc rfl (oc_func (vs := [vi 6, .string r16, .bool r23]) rfl t_ent_123) (ok_lexis_token _ hr31 S29.sub) ?_
 rintro _ w33 ⟨h34, s35, _, _, rfl, ⟨cs36, rfl, r37⟩, rfl⟩
 have S38 := S29.trans0 s35
 refine Wv rfl (ov_extract rfl rfl) <| Wv rfl (ov_extract rfl rfl) ?_
 have ob39 := (((ob11.step0 s21).step0 s28).step0 s35)
 obtain rfl := rp_Tok.1 r37
 refine WL.store (vs := [vi r30.1.kind, .string r30.1.text, vi r30.1.pos]) rfl rfl rfl rfl t_size_38 (one_cons rfl (one_cons rfl (one_cons rfl one_nil))) ob39 S38.sub (by simp) (ds := [vi r30.1.kind, .string r30.1.text, vi r30.1.pos]) rfl (fun w40 s41 ob42 => ?_)
 have S43 := S38.trans1 s41 (.inr g13)
 refine Wa rfl rfl <| WL.nil <| WQ.seqN <| WC.ret <| WQ.retG (rg2 rfl (ri_cell rfl (run_loadVarN (cs := [vi r30.1.kind, .string r30.1.text, vi r30.1.pos]) t_agg_38 t_size_38 (OB.cells ob42 0 rfl))) (ri_tmp rfl)) ?_
 obtain rfl := Option.some.inj HF
 exact ⟨_, rfl, h34, S43, _, _, rfl, ⟨_, rfl, (rp_Tok.2 rfl)⟩, rfl⟩
theorem ok_lexis_scanner_address (k : Nat) : C_lexis_scanner_address (F_lexis_scanner_address k) := s_lexis_scanner_address k

def C_lexis_isSign (φ : ByteArray → Option Bool) : Prop := ∀ ⦃x1 : ByteArray⦄ ⦃r : Bool⦄, φ x1 = some r → ∀ ⦃w0 : World⦄ ⦃h0 : Hp⦄, Sub h0 w0 →
  Calls Tryz.prog 92 #[.string x1] w0 fun e w1 => ∃ v, e = .returned v ∧ ∃ h1, Stp [] w0 h0 w1 h1 ∧ v = .bool r
theorem s_lexis_isSign (k : Nat) : C_lexis_isSign (F_lexis_isSign k) := by
 intro x1 r HF w0 h0  hs0 
 have S0 : Stp [] w0 h0 w0 h0 := Stp.refl hs0 _
 refine enter (n := 27) Tryz.func92 rfl Tryz.ntmps92 rfl [(0, .string x1)] rfl <| WC.seq <| WC.region <| Wa rfl rfl <| WL.nil <| WQ.seqN <| WC.join (fun E w31 => ∃ (h30 : Hp), lexis_isSign_j2 k  = some r ∧ E = [] ∧ Stp [] w0 h0 w31 h30 ∧ Hle h0 h30) ?_ ?_
 ·rintro E w31 ⟨h30, HF, rfl, S33, le32⟩
  refine WC.seq <| WC.region <| Wa rfl rfl <| WL.nil <| WQ.seqN <| WC.ret <| WQ.ret1 rfl rfl ?_
  obtain rfl := Option.some.inj HF
  exact ⟨_, rfl, h30, S33, rfl⟩
 intro J34
 refine WC.seq <| WC.region <| Wm rfl rfl <| WL.nil <| WQ.seqN <| WC.block <| WC.join (fun E w24 => ∃ (h23 : Hp) (x27 : Bool), lexis_isSign_j1 k x27 = some r ∧ E = [(4, .bool x27)] ∧ Stp [] w0 h0 w24 h23 ∧ Hle h0 h23) ?_ ?_
 ·rintro E w24 ⟨h23, x27, HF, rfl, S26, le25⟩
  refine WC.cF HF rfl (fun HF => ?_) (fun HF => ?_)
  ·refine WC.seq <| WC.region <| Wa rfl rfl <| WL.nil <| WQ.seqN <| WC.ret <| WQ.blockRet <| WQ.thenRet <| WQ.ret1 rfl rfl ?_
   obtain rfl := Option.some.inj HF
   exact ⟨_, rfl, h23, S26, rfl⟩
  refine WC.skip <| WQ.blockN <| WC.to [] _ rfl ?_
  exact J34 ⟨h23, HF, rfl, S26, le25⟩
 intro J29
 refine WC.seq <| WC.region <| Wv rfl (ov_eqlS rfl rfl) <| Wa rfl rfl <| WL.nil <| WQ.seqN <| WC.cF HF rfl (fun HF => ?_) (fun HF => ?_)
 ·refine WC.skip <| WC.to [4] _ rfl ?_
  exact J29 ⟨h0, bEq x1 b'79, HF, rfl, S0, Hle.refl _⟩
 refine WC.seq <| WC.region <| Wv rfl (ov_eqlS rfl rfl) <| Wa rfl rfl <| WL.nil <| WQ.seqN <| WC.cF HF rfl (fun HF => ?_) (fun HF => ?_)
 ·refine WC.skip <| WC.to [4] _ rfl ?_
  exact J29 ⟨h0, bEq x1 b'80, HF, rfl, S0, Hle.refl _⟩
 refine WC.seq <| WC.region <| Wv rfl (ov_eqlS rfl rfl) <| Wa rfl rfl <| WL.nil <| WQ.seqN <| WC.cF HF rfl (fun HF => ?_) (fun HF => ?_)
 ·refine WC.skip <| WC.to [4] _ rfl ?_
  exact J29 ⟨h0, bEq x1 b'96, HF, rfl, S0, Hle.refl _⟩
 refine WC.seq <| WC.region <| Wv rfl (ov_eqlS rfl rfl) <| Wa rfl rfl <| WL.nil <| WQ.seqN <| WC.cF HF rfl (fun HF => ?_) (fun HF => ?_)
 ·refine WC.skip <| WC.to [4] _ rfl ?_
  exact J29 ⟨h0, bEq x1 b'97, HF, rfl, S0, Hle.refl _⟩
 refine WC.seq <| WC.region <| Wv rfl (ov_eqlS rfl rfl) <| Wa rfl rfl <| WL.nil <| WQ.seqN <| WC.cF HF rfl (fun HF => ?_) (fun HF => ?_)
 ·refine WC.skip <| WC.to [4] _ rfl ?_
  exact J29 ⟨h0, bEq x1 b'83, HF, rfl, S0, Hle.refl _⟩
 refine WC.seq <| WC.region <| Wv rfl (ov_eqlS rfl rfl) <| Wa rfl rfl <| WL.nil <| WQ.seqN <| WC.cF HF rfl (fun HF => ?_) (fun HF => ?_)
 ·refine WC.skip <| WC.to [4] _ rfl ?_
  exact J29 ⟨h0, bEq x1 b'89, HF, rfl, S0, Hle.refl _⟩
 refine WC.seq <| WC.region <| Wv rfl (ov_eqlS rfl rfl) <| Wa rfl rfl <| WL.nil <| WQ.seqN <| WC.cF HF rfl (fun HF => ?_) (fun HF => ?_)
 ·refine WC.skip <| WC.to [4] _ rfl ?_
  exact J29 ⟨h0, bEq x1 b'88, HF, rfl, S0, Hle.refl _⟩
 refine WC.seq <| WC.region <| Wv rfl (ov_eqlS rfl rfl) <| Wa rfl rfl <| WL.nil <| WQ.seqN <| WC.cF HF rfl (fun HF => ?_) (fun HF => ?_)
 ·refine WC.skip <| WC.to [4] _ rfl ?_
  exact J29 ⟨h0, bEq x1 b'85, HF, rfl, S0, Hle.refl _⟩
 refine WC.seq <| WC.region <| Wv rfl (ov_eqlS rfl rfl) <| Wa rfl rfl <| WL.nil <| WQ.seqN <| WC.cF HF rfl (fun HF => ?_) (fun HF => ?_)
 ·refine WC.skip <| WC.to [4] _ rfl ?_
  exact J29 ⟨h0, bEq x1 b'87, HF, rfl, S0, Hle.refl _⟩
 refine WC.seq <| WC.region <| Wv rfl (ov_eqlS rfl rfl) <| Wa rfl rfl <| WL.nil <| WQ.seqN <| WC.cF HF rfl (fun HF => ?_) (fun HF => ?_)
 ·refine WC.skip <| WC.to [4] _ rfl ?_
  exact J29 ⟨h0, bEq x1 b'93, HF, rfl, S0, Hle.refl _⟩
 refine WC.seq <| WC.region <| Wv rfl (ov_eqlS rfl rfl) <| Wa rfl rfl <| WL.nil <| WQ.seqN <| WC.cF HF rfl (fun HF => ?_) (fun HF => ?_)
 ·refine WC.skip <| WC.to [4] _ rfl ?_
  exact J29 ⟨h0, bEq x1 b'91, HF, rfl, S0, Hle.refl _⟩
 refine WC.seq <| WC.region <| Wv rfl (ov_eqlS rfl rfl) <| Wa rfl rfl <| WL.nil <| WQ.seqN <| WC.cF HF rfl (fun HF => ?_) (fun HF => ?_)
 ·refine WC.skip <| WC.to [4] _ rfl ?_
  exact J29 ⟨h0, bEq x1 b'92, HF, rfl, S0, Hle.refl _⟩
 refine WC.seq <| WC.region <| Wv rfl (ov_eqlS rfl rfl) <| Wa rfl rfl <| WL.nil <| WQ.seqN <| WC.cF HF rfl (fun HF => ?_) (fun HF => ?_)
 ·refine WC.skip <| WC.to [4] _ rfl ?_
  exact J29 ⟨h0, bEq x1 b'90, HF, rfl, S0, Hle.refl _⟩
 refine WC.seq <| WC.region <| Wv rfl (ov_eqlS rfl rfl) <| Wa rfl rfl <| WL.nil <| WQ.seqN <| WC.cF HF rfl (fun HF => ?_) (fun HF => ?_)
 ·refine WC.skip <| WC.to [4] _ rfl ?_
  exact J29 ⟨h0, bEq x1 b'95, HF, rfl, S0, Hle.refl _⟩
 refine WC.seq <| WC.region <| Wv rfl (ov_eqlS rfl rfl) <| Wa rfl rfl <| WL.nil <| WQ.seqN <| WC.cF HF rfl (fun HF => ?_) (fun HF => ?_)
 ·refine WC.skip <| WC.to [4] _ rfl ?_
  exact J29 ⟨h0, bEq x1 b'94, HF, rfl, S0, Hle.refl _⟩
 refine WC.seq <| WC.region <| Wv rfl (ov_eqlS rfl rfl) <| Wa rfl rfl <| WL.nil <| WQ.seqN <| WC.cF HF rfl (fun HF => ?_) (fun HF => ?_)
 ·refine WC.skip <| WC.to [4] _ rfl ?_
  exact J29 ⟨h0, bEq x1 b'82, HF, rfl, S0, Hle.refl _⟩
 refine WC.seq <| WC.region <| Wv rfl (ov_eqlS rfl rfl) <| Wa rfl rfl <| WL.nil <| WQ.seqN <| WC.cF HF rfl (fun HF => ?_) (fun HF => ?_)
 ·refine WC.skip <| WC.to [4] _ rfl ?_
  exact J29 ⟨h0, bEq x1 b'84, HF, rfl, S0, Hle.refl _⟩
 refine WC.seq <| WC.region <| Wv rfl (ov_eqlS rfl rfl) <| Wa rfl rfl <| WL.nil <| WQ.seqN <| WC.cF HF rfl (fun HF => ?_) (fun HF => ?_)
 ·refine WC.skip <| WC.to [4] _ rfl ?_
  exact J29 ⟨h0, bEq x1 b'81, HF, rfl, S0, Hle.refl _⟩
 refine WC.seq <| WC.region <| Wv rfl (ov_eqlS rfl rfl) <| Wa rfl rfl <| WL.nil <| WQ.seqN <| WC.cF HF rfl (fun HF => ?_) (fun HF => ?_)
 ·refine WC.skip <| WC.to [4] _ rfl ?_
  exact J29 ⟨h0, bEq x1 b'86, HF, rfl, S0, Hle.refl _⟩
 refine WC.seq <| WC.region <| Wv rfl (ov_eqlS rfl rfl) <| Wa rfl rfl <| WL.nil <| WQ.seqN <| WC.cF HF rfl (fun HF => ?_) (fun HF => ?_)
 ·refine WC.skip <| WC.to [4] _ rfl ?_
  exact J29 ⟨h0, bEq x1 (⟨#[38]⟩ : ByteArray), HF, rfl, S0, Hle.refl _⟩
 refine WC.seq <| WC.region <| Wv rfl (ov_eqlS rfl rfl) <| Wa rfl rfl <| WL.nil <| WQ.seqN <| WC.cF HF rfl (fun HF => ?_) (fun HF => ?_)
 ·refine WC.skip <| WC.to [4] _ rfl ?_
  exact J29 ⟨h0, bEq x1 (⟨#[124]⟩ : ByteArray), HF, rfl, S0, Hle.refl _⟩
 refine WC.region <| Wv rfl (ov_eqlS rfl rfl) <| Wa rfl rfl <| WL.nil <| WC.to [4] _ rfl ?_
 exact J29 ⟨h0, bEq x1 (⟨#[45, 62]⟩ : ByteArray), HF, rfl, S0, Hle.refl _⟩
theorem ok_lexis_isSign (k : Nat) : C_lexis_isSign (F_lexis_isSign k) := s_lexis_isSign k

def C_lexis_scanner_sign (φ : ByteArray → Int → Option (Tok × Int)) : Prop := ∀ ⦃x3 : ByteArray⦄ ⦃x4 : Int⦄ ⦃r : Tok × Int⦄, φ x3 x4 = some r → ∀ ⦃w0 : World⦄ ⦃h0 : Hp⦄ ⦃b1 : Nat⦄ ⦃T2 : Nat⦄, Sub h0 w0 → OB w0 h0 b1 T2 [.string x3, .int .i64 x4] →
  Calls Tryz.prog 67 #[.pointer (some ⟨b1, 0, none⟩)] w0 fun e w1 => ∃ v, e = .returned v ∧ ∃ h1, Stp [] w0 h0 w1 h1 ∧ (∃ u0 u1 : Value, v = .tuple #[u0, u1] ∧ (∃ cs : List Value, u0 = .agg cs.toArray ∧ Rp.R h1 r.1 cs) ∧ (u1 = .int .i64 r.2))
theorem s_lexis_scanner_sign (k : Nat) (IH : ∀ j, j ≤ k → C_lexis_scanner_sign (tie_lexis_scanner_sign j).lexis_scanner_sign) : C_lexis_scanner_sign (m_lexis_scanner_sign k (tie_lexis_scanner_sign k)) := by
 intro x3 x4 r HF w0 h0 b1 T2 hs0 ob5
 have S0 : Stp [] w0 h0 w0 h0 := Stp.refl hs0 _
 have lt6 : b1 < w0.heap.size := OB.lt ob5
 refine enter (n := 43) Tryz.func67 rfl Tryz.ntmps67 rfl [(0, pt b1 0)] rfl <| WC.seq <| WC.region <| WL.alloc (zs := [vi 0, .string b'110, vi 0]) rfl rfl t_zero_38 rfl S0.sub (fun w7 b8 hb9 s10 ob11 => ?_)
 have ne12 : b1 ≠ b8 := ob5.ne_new hb9
 have g13 : w0.heap.size ≤ b8 := by rw [hb9]; exact S0.size
 have S14 := S0.trans0 s10
 refine Wa rfl rfl <| WL.nil <| WQ.seqN <| WC.seq <| WC.seq <| WC.drawn (m := 9) [(0, pt b1 0), (2, pt b8 0)] [0, 2] rfl (fun i v w h => match i with | 0 => v = pt b1 0 | 1 => v = pt b1 0 | 2 => v = pt b1 0 | 3 => v = .string x3 | 4 => v = vi (x3.size : Int) | 5 => v = pt b1 0 | 6 => v = pt b1 0 | 7 => v = pt b1 1 | 8 => v = vi x4 | _ => True) t_mixed S14.sub rfl rfl rfl rfl rfl ?_ ?_ ?_
 ·intro i v w h w2 h2 hΦ hst
  match i, hΦ with
  | 0, hΦ | 1, hΦ | 2, hΦ | 3, hΦ | 4, hΦ | 5, hΦ | 6, hΦ | 7, hΦ | 8, hΦ => exact hΦ
  | i + 9, _ => exact trivial
 ·refine ⟨?_, ?_, ?_, ?_, ?_, ?_, ?_, ?_, ?_, trivial⟩
  ·intro a w15 h16 s17 hat hF
   exact front_val hat rfl (ov_move rfl) s17.sub (by exact rfl)
  ·intro a w15 h16 s17 hat hF
   exact front_val (At.cons hat (hF 0 6 rfl rfl)) rfl (ov_nilCheck rfl) s17.sub (by exact rfl)
  ·intro a w15 h16 s17 hat hF
   exact front_val (At.cons hat (hF 1 7 rfl rfl)) rfl (ov_fieldAddr rfl t_field_81_0) s17.sub (by exact rfl)
  ·intro a w15 h16 s17 hat hF
   have ob18 := ((ob5.step0 s10).step0 s17)
   exact front_val (At.cons hat (hF 2 8 rfl rfl)) rfl (ov_load1 rfl t_agg_9 (OB.cell ob18 (j := 0) rfl)) s17.sub (by exact rfl)
  ·intro a w15 h16 s17 hat hF
   exact front_val (At.cons hat (hF 3 9 rfl rfl)) rfl (ov_lenS rfl t_string_9) s17.sub (by exact rfl)
  ·intro a w15 h16 s17 hat hF
   exact front_val hat rfl (ov_move rfl) s17.sub (by exact rfl)
  ·intro a w15 h16 s17 hat hF
   exact front_val (At.cons hat (hF 5 11 rfl rfl)) rfl (ov_nilCheck rfl) s17.sub (by exact rfl)
  ·intro a w15 h16 s17 hat hF
   exact front_val (At.cons hat (hF 6 12 rfl rfl)) rfl (ov_fieldAddr rfl t_field_81_1) s17.sub (by exact rfl)
  intro a w15 h16 s17 hat hF
  have ob19 := ((ob5.step0 s10).step0 s17)
  exact front_val (At.cons hat (hF 7 13 rfl rfl)) rfl (ov_load1 rfl t_agg_3 (OB.cell ob19 (j := 1) rfl)) s17.sub (by exact rfl)
 intro a w15 h16 s17 hat hF
 obtain hv0 := hF 0 6 (by decide) rfl
 obtain hv1 := hF 1 7 (by decide) rfl
 obtain hv2 := hF 2 8 (by decide) rfl
 obtain hv3 := hF 3 9 (by decide) rfl
 obtain hv4 := hF 4 10 (by decide) rfl
 obtain hv5 := hF 5 11 (by decide) rfl
 obtain hv6 := hF 6 12 (by decide) rfl
 obtain hv7 := hF 7 13 (by decide) rfl
 obtain hv8 := hF 8 14 (by decide) rfl
 refine WL.at_ [(14, vi x4), (13, pt b1 1), (12, pt b1 0), (11, pt b1 0), (10, vi (x3.size : Int)), (9, .string x3), (8, pt b1 0), (7, pt b1 0), (6, pt b1 0), (0, pt b1 0), (2, pt b8 0)] (At.cons (At.cons (At.cons (At.cons (At.cons (At.cons (At.cons (At.cons (At.cons hat hv0) hv1) hv2) hv3) hv4) hv5) hv6) hv7) hv8) ?_
 have S20 := S14.trans0 s17
 refine Wv rfl (ov_sub rfl rfl) <| Wv rfl (ov_min rfl rfl) <| Wa rfl rfl <| WL.nil <| WQ.seqN <| WC.block <| WC.loop <| WP.to [0, 2, 4] [(0, pt b1 0), (2, pt b8 0), (4, vi (imin 2 (IntKind.i64.wrap ((x3.size : Int) - x4))))] rfl <| WP_rule (K := k) (fun j E w22 => ∃ (h21 : Hp) (x25 : Int), (tie_lexis_scanner_sign j).lexis_scanner_sign_l1 x3 x4 x25 = some r ∧ E = [(0, pt b1 0), (2, pt b8 0), (4, vi x25)] ∧ Stp [] w0 h0 w22 h21 ∧ Hle h16 h21 ∧ OB w22 h21 b1 T2 [.string x3, vi x4] ∧ OB w22 h21 b8 38 [vi 0, .string b'110, vi 0]) ?_ ?_ (j := k) (Nat.le_refl _) ?_
 ·rintro E w22 ⟨_, _, HF, _⟩; cases HF
 ·rintro j28 hj30 IHL29 E w22 ⟨h21, x25, HF, rfl, S24, le23, ob26, ob27⟩
  refine WC.join (fun E w37 => ∃ (h36 : Hp), lexis_scanner_sign_j2 j28 (tie_lexis_scanner_sign j28) x3 x4 x25 = some r ∧ E = [(0, pt b1 0), (2, pt b8 0), (4, vi x25)] ∧ Stp [] w0 h0 w37 h36 ∧ Hle h21 h36 ∧ OB w37 h36 b1 T2 [.string x3, vi x4] ∧ OB w37 h36 b8 38 [vi 0, .string b'110, vi 0]) ?_ ?_
  ·rintro E w37 ⟨h36, HF, rfl, S39, le38, ob40, ob41⟩
   refine WC.join (fun E w74 => ∃ (h73 : Hp), lexis_scanner_sign_j3 j28 (tie_lexis_scanner_sign j28) x3 x4 x25 = some r ∧ E = [(0, pt b1 0), (2, pt b8 0), (4, vi x25)] ∧ Stp [] w0 h0 w74 h73 ∧ Hle h36 h73 ∧ OB w74 h73 b1 T2 [.string x3, vi x4] ∧ OB w74 h73 b8 38 [vi 0, .string b'110, vi 0]) ?_ ?_
   ·rintro E w74 ⟨h73, HF, rfl, S76, le75, ob77, ob78⟩
    refine WC.region <| Wm rfl rfl <| Wv rfl (ov_sub rfl rfl) <| Wa rfl rfl <| WL.nil <| WQ.loopN <| WP.to [0, 2, 4] [(0, pt b1 0), (2, pt b8 0), (4, vi (IntKind.i64.wrap (x25 - 1)))] rfl ?_
    exact IHL29 j28 (Nat.le_refl _) _ _ ⟨h73, IntKind.i64.wrap (x25 - 1), HF, rfl, S76, (le23).trans ((le38).trans le75), ob77, ob78⟩
   intro J79
   refine WC.block <| WC.seq <| WC.drawn (m := 14) [(0, pt b1 0), (2, pt b8 0), (4, vi x25)] [0, 2, 4] rfl (fun i v w h => match i with | 0 => v = pt b1 0 | 1 => v = pt b1 0 | 2 => v = pt b1 0 | 3 => v = .string x3 | 4 => v = pt b1 0 | 5 => v = pt b1 0 | 6 => v = pt b1 1 | 7 => v = vi x4 | 8 => v = pt b1 0 | 9 => v = pt b1 0 | 10 => v = pt b1 1 | 11 => v = vi x4 | 12 => v = vi x25 | 13 => v = vi (IntKind.i64.wrap (x4 + x25)) | _ => True) t_mixed S39.sub rfl rfl rfl rfl rfl ?_ ?_ ?_
   ·intro i v w h w2 h2 hΦ hst
    match i, hΦ with
    | 0, hΦ | 1, hΦ | 2, hΦ | 3, hΦ | 4, hΦ | 5, hΦ | 6, hΦ | 7, hΦ | 8, hΦ | 9, hΦ | 10, hΦ | 11, hΦ | 12, hΦ | 13, hΦ => exact hΦ
    | i + 14, _ => exact trivial
   ·refine ⟨?_, ?_, ?_, ?_, ?_, ?_, ?_, ?_, ?_, ?_, ?_, ?_, ?_, ?_, trivial⟩
    ·intro a w42 h43 s44 hat hF
     exact front_val hat rfl (ov_move rfl) s44.sub (by exact rfl)
    ·intro a w42 h43 s44 hat hF
     exact front_val (At.cons hat (hF 0 21 rfl rfl)) rfl (ov_nilCheck rfl) s44.sub (by exact rfl)
    ·intro a w42 h43 s44 hat hF
     exact front_val (At.cons hat (hF 1 22 rfl rfl)) rfl (ov_fieldAddr rfl t_field_81_0) s44.sub (by exact rfl)
    ·intro a w42 h43 s44 hat hF
     have ob45 := (ob40.step0 s44)
     exact front_val (At.cons hat (hF 2 23 rfl rfl)) rfl (ov_load1 rfl t_agg_9 (OB.cell ob45 (j := 0) rfl)) s44.sub (by exact rfl)
    ·intro a w42 h43 s44 hat hF
     exact front_val hat rfl (ov_move rfl) s44.sub (by exact rfl)
    ·intro a w42 h43 s44 hat hF
     exact front_val (At.cons hat (hF 4 25 rfl rfl)) rfl (ov_nilCheck rfl) s44.sub (by exact rfl)
    ·intro a w42 h43 s44 hat hF
     exact front_val (At.cons hat (hF 5 26 rfl rfl)) rfl (ov_fieldAddr rfl t_field_81_1) s44.sub (by exact rfl)
    ·intro a w42 h43 s44 hat hF
     have ob46 := (ob40.step0 s44)
     exact front_val (At.cons hat (hF 6 27 rfl rfl)) rfl (ov_load1 rfl t_agg_3 (OB.cell ob46 (j := 1) rfl)) s44.sub (by exact rfl)
    ·intro a w42 h43 s44 hat hF
     exact front_val hat rfl (ov_move rfl) s44.sub (by exact rfl)
    ·intro a w42 h43 s44 hat hF
     exact front_val (At.cons hat (hF 8 29 rfl rfl)) rfl (ov_nilCheck rfl) s44.sub (by exact rfl)
    ·intro a w42 h43 s44 hat hF
     exact front_val (At.cons hat (hF 9 30 rfl rfl)) rfl (ov_fieldAddr rfl t_field_81_1) s44.sub (by exact rfl)
    ·intro a w42 h43 s44 hat hF
     have ob47 := (ob40.step0 s44)
     exact front_val (At.cons hat (hF 10 31 rfl rfl)) rfl (ov_load1 rfl t_agg_3 (OB.cell ob47 (j := 1) rfl)) s44.sub (by exact rfl)
    ·intro a w42 h43 s44 hat hF
     exact front_val hat rfl (ov_move rfl) s44.sub (by exact rfl)
    intro a w42 h43 s44 hat hF
    exact front_val (At.cons (At.cons hat (hF 11 32 rfl rfl)) (hF 12 33 rfl rfl)) rfl (ov_add rfl rfl) s44.sub (by exact rfl)
   intro a w42 h43 s44 hat hF
   obtain hv0 := hF 0 21 (by decide) rfl
   obtain hv1 := hF 1 22 (by decide) rfl
   obtain hv2 := hF 2 23 (by decide) rfl
   obtain hv3 := hF 3 24 (by decide) rfl
   obtain hv4 := hF 4 25 (by decide) rfl
   obtain hv5 := hF 5 26 (by decide) rfl
   obtain hv6 := hF 6 27 (by decide) rfl
   obtain hv7 := hF 7 28 (by decide) rfl
   obtain hv8 := hF 8 29 (by decide) rfl
   obtain hv9 := hF 9 30 (by decide) rfl
   obtain hv10 := hF 10 31 (by decide) rfl
   obtain hv11 := hF 11 32 (by decide) rfl
   obtain hv12 := hF 12 33 (by decide) rfl
   obtain hv13 := hF 13 34 (by decide) rfl
   refine WL.at_ [(34, vi (IntKind.i64.wrap (x4 + x25))), (33, vi x25), (32, vi x4), (31, pt b1 1), (30, pt b1 0), (29, pt b1 0), (28, vi x4), (27, pt b1 1), (26, pt b1 0), (25, pt b1 0), (24, .string x3), (23, pt b1 0), (22, pt b1 0), (21, pt b1 0), (0, pt b1 0), (2, pt b8 0), (4, vi x25)] (At.cons (At.cons (At.cons (At.cons (At.cons (At.cons (At.cons (At.cons (At.cons (At.cons (At.cons (At.cons (At.cons (At.cons hat hv0) hv1) hv2) hv3) hv4) hv5) hv6) hv7) hv8) hv9) hv10) hv11) hv12) hv13) ?_
   have S48 := S39.trans0 s44
   obtain ⟨t49, ht50, HF⟩ := bind_some HF
   refine Wv rfl (ov_sliceSLH rfl rfl rfl t_string_9 ht50) <| Wa rfl rfl <| WL.nil <| WQ.seqN <| WC.seq <| WC.region <| Wm rfl rfl ?_
   obtain ⟨r51, hr52, HF⟩ := bind_some HF
   refine Wc rfl (oc_func (vs := [.string t49]) rfl t_ent_92) (ok_lexis_isSign _ hr52 S48.sub) ?_
   rintro _ w54 ⟨h55, s56, rfl⟩
   have S57 := S48.trans0 s56
   refine WL.nil <| WQ.seqN <| WC.cF HF rfl (fun HF => ?_) (fun HF => ?_)
   ·refine WC.seq <| WC.region <| Wm rfl rfl ?_
    obtain ⟨r59, hr60, HF⟩ := bind_some HF
    refine Wc rfl (oc_func (vs := [vi 4, .string t49, .bool true]) rfl t_ent_123) (ok_lexis_token _ hr60 S57.sub) ?_
    rintro _ w62 ⟨h63, s64, _, _, rfl, ⟨cs65, rfl, r66⟩, rfl⟩
    have S67 := S57.trans0 s64
    refine Wv rfl (ov_extract rfl rfl) <| Wv rfl (ov_extract rfl rfl) ?_
    have ob68 := (((ob41.step0 s44).step0 s56).step0 s64)
    obtain rfl := rp_Tok.1 r66
    refine WL.store (vs := [vi r59.1.kind, .string r59.1.text, vi r59.1.pos]) rfl rfl rfl rfl t_size_38 (one_cons rfl (one_cons rfl (one_cons rfl one_nil))) ob68 S67.sub (by simp) (ds := [vi r59.1.kind, .string r59.1.text, vi r59.1.pos]) rfl (fun w69 s70 ob71 => ?_)
    have S72 := S67.trans1 s70 (.inr g13)
    refine Wa rfl rfl <| WL.nil <| WQ.seqN <| WC.ret <| WQ.blockRet <| WQ.thenRet <| WQ.thenRet <| WQ.blockRet <| WQ.thenRet <| WQ.retG (rg2 rfl (ri_cell rfl (run_loadVarN (cs := [vi r59.1.kind, .string r59.1.text, vi r59.1.pos]) t_agg_38 t_size_38 (OB.cells ob71 0 rfl))) (ri_tmp rfl)) ?_
    obtain rfl := Option.some.inj HF
    exact ⟨_, rfl, h63, S72, _, _, rfl, ⟨_, rfl, (rp_Tok.2 rfl)⟩, rfl⟩
   refine WC.skip <| WQ.blockN ?_
   have ob80 := ((ob40.step0 s44).step0 s56)
   have ob81 := ((ob41.step0 s44).step0 s56)
   refine WC.to [0, 2, 4] _ rfl ?_
   exact J79 ⟨h55, HF, rfl, S57, (s44.le).trans s56.le, ob80, ob81⟩
  intro J82
  refine WC.seq <| WC.region <| Wm rfl rfl <| Wv rfl (ov_gtr rfl rfl) <| WL.nil <| WQ.seqN <| WC.cF HF rfl (fun HF => ?_) (fun HF => ?_)
  ·refine WC.skip <| WC.to [0, 2, 4] _ rfl ?_
   exact J82 ⟨h21, HF, rfl, S24, Hle.refl _, ob26, ob27⟩
  refine WC.exit <| WQ.thenExit <| WQ.thenExit <| WQ.blockHit <| WQ.seqN <| WC.seq <| WC.region <| Wv rfl (ov_buildP (vs := []) (cs := [vi 0, .string b'110, vi 0]) rfl t_places_38 t_zero_38 rfl) <| WL.store (vs := [vi 0, .string b'110, vi 0]) rfl rfl rfl rfl t_size_38 (one_cons rfl (one_cons rfl (one_cons rfl one_nil))) ob27 S24.sub (by simp) (ds := [vi 0, .string b'110, vi 0]) rfl (fun w32 s33 ob34 => ?_)
  have S35 := S24.trans1 s33 (.inr g13)
  refine Wa rfl rfl <| WL.nil <| WQ.seqN <| WC.ret <| WQ.retG (rg2 rfl (ri_cell rfl (run_loadVarN (cs := [vi 0, .string b'110, vi 0]) t_agg_38 t_size_38 (OB.cells ob34 0 rfl))) (ri_tmp rfl)) ?_
  obtain rfl := Option.some.inj HF
  exact ⟨_, rfl, h21, S35, _, _, rfl, ⟨_, rfl, (rp_Tok.2 rfl)⟩, rfl⟩
 have ob83 := ((ob5.step0 s10).step0 s17)
 have ob84 := (ob11.step0 s17)
 exact ⟨h16, imin 2 (IntKind.i64.wrap ((x3.size : Int) - x4)), HF, rfl, S20, Hle.refl _, ob83, ob84⟩
theorem all_lexis_scanner_sign : ∀ k j, j ≤ k → C_lexis_scanner_sign (tie_lexis_scanner_sign j).lexis_scanner_sign := by
  intro k
  induction k with
  | zero =>
    intro j hj
    obtain rfl : j = 0 := by omega
    exact (fun _ _ _ => by intro h; cases h)
  | succ k ih =>
    intro j hj
    by_cases h : j ≤ k
    · exact ih j h
    · obtain rfl : j = k + 1 := by omega
      exact s_lexis_scanner_sign k ih
theorem ok_lexis_scanner_sign (k : Nat) : C_lexis_scanner_sign (F_lexis_scanner_sign k) := (all_lexis_scanner_sign k k (Nat.le_refl _))

def C_lexis_scanner_tokens_1 (φ : YS → ByteArray → Int → Option (Int × YS)) : Prop := ∀ ⦃y2 : YS⦄ ⦃x7 : ByteArray⦄ ⦃x8 : Int⦄ ⦃r : Int × YS⦄, φ y2 x7 x8 = some r → ∀ ⦃w0 : World⦄ ⦃h0 : Hp⦄ ⦃l1 : Nat⦄ ⦃J : YS → World → Hp → Prop⦄ ⦃MY : List Nat⦄ ⦃b3 : Nat⦄ ⦃T4 : Nat⦄ ⦃b5 : Nat⦄ ⦃T6 : Nat⦄, Sub h0 w0 → (∀ i ∈ MY, i < w0.heap.size) → (∀ s w h M w1 h1, J s w h → Stp M w h w1 h1 → YM MY w h M → J s w1 h1) → (∀ s t n r w h cs, yfTok s t n = some r → J s w h → w0.heap.size ≤ w.heap.size → Sub h w → Rp.R h t cs → YieldAt Fence.wide 0 Tryz.prog l1 #[.agg cs.toArray, .int .i64 n] w fun e w1 => ∃ b, e = .returned (.bool b) ∧ b = r.1 ∧ ∃ h1 M, J r.2 w1 h1 ∧ Stp M w h w1 h1 ∧ (∀ i ∈ M, i ∈ MY ∨ w0.heap.size ≤ i) ∧ ∀ b T cs, OB w h b T cs → b ∉ MY → b ∉ M) → OB w0 h0 b3 T4 [.pointer (some ⟨b5, 0, none⟩)] → OB w0 h0 b5 T6 [.string x7, .int .i64 x8] → J y2 w0 h0 → b3 ≠ b5 → b3 ∉ MY → b5 ∉ MY →
  Calls Tryz.prog 65 #[.func (.yield l1) #[] #[], .pointer (some ⟨b3, 0, none⟩)] w0 fun e w1 => ∃ v, e = .returned v ∧ ∃ h1, Stp ([b5] ++ MY) w0 h0 w1 h1 ∧ v = .tuple #[] ∧ (OB w1 h1 b5 T6 [.string x7, .int .i64 r.1]) ∧ (J r.2 w1 h1)
theorem s_lexis_scanner_tokens_1 (k : Nat) (IH : ∀ j, j ≤ k → C_lexis_scanner_tokens_1 (tie_lexis_scanner_tokens_1 j).lexis_scanner_tokens_1) : C_lexis_scanner_tokens_1 (m_lexis_scanner_tokens_1 k (tie_lexis_scanner_tokens_1 k)) := by
 intro y2 x7 x8 r HF w0 h0 l1 J MY b3 T4 b5 T6 hs0 hMY hYst hY ob10 ob9 hJ0 ne11 ne12 ne13
 have S0 : Stp ([b5] ++ MY) w0 h0 w0 h0 := Stp.refl hs0 _
 have lt14 : b3 < w0.heap.size := OB.lt ob10
 have lt15 : b5 < w0.heap.size := OB.lt ob9
 refine enter (n := 87) Tryz.func65 rfl Tryz.ntmps65 rfl [(0, .func (.yield l1) #[] #[]), (1, pt b3 0)] rfl <| WC.seq <| WC.region <| Wv rfl (ov_load1 rfl t_agg_79 (OB.cell ob10 (j := 0) rfl)) ?_
 obtain ⟨r16, hr17, HF⟩ := bind_some HF
 refine Wc rfl (oc_func (vs := [pt b5 0]) rfl t_ent_66) (ok_lexis_scanner_skip _ hr17 S0.sub ob9) ?_
 rintro v18 w19 ⟨h20, s21, rfl, ob22⟩
 have S23 := S0.trans s21 (in_cons (.inl (by simp)) in_nil)
 refine WL.nil <| WQ.seqN <| WC.block <| WC.loop <| WP.to [0, 1] [(0, .func (.yield l1) #[] #[]), (1, pt b3 0)] rfl <| WP_rule (K := k) (fun j E w25 => ∃ (h24 : Hp) (x29 : Int) (x31 : YS), (tie_lexis_scanner_tokens_1 j).lexis_scanner_tokens_1_l1 x7 x29 x31 = some r ∧ E = [(0, .func (.yield l1) #[] #[]), (1, pt b3 0)] ∧ Stp ([b5] ++ MY) w0 h0 w25 h24 ∧ Hle h20 h24 ∧ OB w25 h24 b3 T4 [pt b5 0] ∧ OB w25 h24 b5 T6 [.string x7, vi x29] ∧ J x31 w25 h24) ?_ ?_ (j := k) (Nat.le_refl _) ?_
 ·rintro E w25 ⟨_, _, _, HF, _⟩; cases HF
 ·rintro j33 hj35 IHL34 E w25 ⟨h24, x29, x31, HF, rfl, S27, le26, ob28, ob30, ob32⟩
  refine WC.join (fun E w48 => ∃ (h47 : Hp), lexis_scanner_tokens_1_j2 j33 (tie_lexis_scanner_tokens_1 j33) x7 x29 x31 = some r ∧ E = [(0, .func (.yield l1) #[] #[]), (1, pt b3 0)] ∧ Stp ([b5] ++ MY) w0 h0 w48 h47 ∧ Hle h24 h47 ∧ OB w48 h47 b3 T4 [pt b5 0] ∧ OB w48 h47 b5 T6 [.string x7, vi x29] ∧ J x31 w48 h47) ?_ ?_
  ·rintro E w48 ⟨h47, HF, rfl, S50, le49, ob51, ob52, ob53⟩
   refine WC.seq <| WC.block <| WC.seq <| WC.region <| Wv rfl (ov_load1 rfl t_agg_79 (OB.cell ob51 (j := 0) rfl)) <| Wv rfl (ov_makeMethod (us := [pt b5 0]) (vs := []) rfl rfl) <| Wa rfl rfl <| WL.nil <| WQ.seqN <| WC.seq <| WC.seq <| WC.drawn (m := 8) [(0, .func (.yield l1) #[] #[]), (1, pt b3 0), (3, .func (.func 67) #[pt b5 0] #[])] [0, 1, 3] rfl (fun i v w h => match i with | 0 => v = pt b5 0 | 1 => v = pt b5 0 | 2 => v = pt b5 0 | 3 => v = .string x7 | 4 => v = pt b5 0 | 5 => v = pt b5 0 | 6 => v = pt b5 1 | 7 => v = vi x29 | _ => True) t_mixed S50.sub rfl rfl rfl rfl rfl ?_ ?_ ?_
   ·intro i v w h w2 h2 hΦ hst
    match i, hΦ with
    | 0, hΦ | 1, hΦ | 2, hΦ | 3, hΦ | 4, hΦ | 5, hΦ | 6, hΦ | 7, hΦ => exact hΦ
    | i + 8, _ => exact trivial
   ·refine ⟨?_, ?_, ?_, ?_, ?_, ?_, ?_, ?_, trivial⟩
    ·intro a w54 h55 s56 hat hF
     have ob57 := (ob51.step0 s56)
     exact front_val hat rfl (ov_load1 rfl t_agg_79 (OB.cell ob57 (j := 0) rfl)) s56.sub (by exact rfl)
    ·intro a w54 h55 s56 hat hF
     exact front_val (At.cons hat (hF 0 23 rfl rfl)) rfl (ov_nilCheck rfl) s56.sub (by exact rfl)
    ·intro a w54 h55 s56 hat hF
     exact front_val (At.cons hat (hF 1 24 rfl rfl)) rfl (ov_fieldAddr rfl t_field_81_0) s56.sub (by exact rfl)
    ·intro a w54 h55 s56 hat hF
     have ob58 := (ob52.step0 s56)
     exact front_val (At.cons hat (hF 2 25 rfl rfl)) rfl (ov_load1 rfl t_agg_9 (OB.cell ob58 (j := 0) rfl)) s56.sub (by exact rfl)
    ·intro a w54 h55 s56 hat hF
     have ob59 := (ob51.step0 s56)
     exact front_val hat rfl (ov_load1 rfl t_agg_79 (OB.cell ob59 (j := 0) rfl)) s56.sub (by exact rfl)
    ·intro a w54 h55 s56 hat hF
     exact front_val (At.cons hat (hF 4 27 rfl rfl)) rfl (ov_nilCheck rfl) s56.sub (by exact rfl)
    ·intro a w54 h55 s56 hat hF
     exact front_val (At.cons hat (hF 5 28 rfl rfl)) rfl (ov_fieldAddr rfl t_field_81_1) s56.sub (by exact rfl)
    intro a w54 h55 s56 hat hF
    have ob60 := (ob52.step0 s56)
    exact front_val (At.cons hat (hF 6 29 rfl rfl)) rfl (ov_load1 rfl t_agg_3 (OB.cell ob60 (j := 1) rfl)) s56.sub (by exact rfl)
   intro a w54 h55 s56 hat hF
   obtain hv0 := hF 0 23 (by decide) rfl
   obtain hv1 := hF 1 24 (by decide) rfl
   obtain hv2 := hF 2 25 (by decide) rfl
   obtain hv3 := hF 3 26 (by decide) rfl
   obtain hv4 := hF 4 27 (by decide) rfl
   obtain hv5 := hF 5 28 (by decide) rfl
   obtain hv6 := hF 6 29 (by decide) rfl
   obtain hv7 := hF 7 30 (by decide) rfl
   refine WL.at_ [(30, vi x29), (29, pt b5 1), (28, pt b5 0), (27, pt b5 0), (26, .string x7), (25, pt b5 0), (24, pt b5 0), (23, pt b5 0), (0, .func (.yield l1) #[] #[]), (1, pt b3 0), (3, .func (.func 67) #[pt b5 0] #[])] (At.cons (At.cons (At.cons (At.cons (At.cons (At.cons (At.cons (At.cons hat hv0) hv1) hv2) hv3) hv4) hv5) hv6) hv7) ?_
   have S61 := S50.trans0 s56
   obtain ⟨c62, hc63, HF⟩ := bind_some HF
   refine Wv rfl (ov_indexSO rfl rfl t_string_9 hc63) <| Wa rfl rfl <| WL.nil <| WQ.seqN <| WC.block <| WC.seq <| WC.drawn (m := 8) [(0, .func (.yield l1) #[] #[]), (1, pt b3 0), (3, .func (.func 67) #[pt b5 0] #[]), (4, .int .u8 c62)] [0, 1, 3, 4] rfl (fun i v w h => match i with | 0 => v = pt b5 0 | 1 => v = pt b5 0 | 2 => v = pt b5 0 | 3 => v = .string x7 | 4 => v = pt b5 0 | 5 => v = pt b5 0 | 6 => v = pt b5 1 | 7 => v = vi x29 | _ => True) t_mixed S61.sub rfl rfl rfl rfl rfl ?_ ?_ ?_
   ·intro i v w h w2 h2 hΦ hst
    match i, hΦ with
    | 0, hΦ | 1, hΦ | 2, hΦ | 3, hΦ | 4, hΦ | 5, hΦ | 6, hΦ | 7, hΦ => exact hΦ
    | i + 8, _ => exact trivial
   ·refine ⟨?_, ?_, ?_, ?_, ?_, ?_, ?_, ?_, trivial⟩
    ·intro a w64 h65 s66 hat hF
     have ob67 := ((ob51.step0 s56).step0 s66)
     exact front_val hat rfl (ov_load1 rfl t_agg_79 (OB.cell ob67 (j := 0) rfl)) s66.sub (by exact rfl)
    ·intro a w64 h65 s66 hat hF
     exact front_val (At.cons hat (hF 0 33 rfl rfl)) rfl (ov_nilCheck rfl) s66.sub (by exact rfl)
    ·intro a w64 h65 s66 hat hF
     exact front_val (At.cons hat (hF 1 34 rfl rfl)) rfl (ov_fieldAddr rfl t_field_81_0) s66.sub (by exact rfl)
    ·intro a w64 h65 s66 hat hF
     have ob68 := ((ob52.step0 s56).step0 s66)
     exact front_val (At.cons hat (hF 2 35 rfl rfl)) rfl (ov_load1 rfl t_agg_9 (OB.cell ob68 (j := 0) rfl)) s66.sub (by exact rfl)
    ·intro a w64 h65 s66 hat hF
     have ob69 := ((ob51.step0 s56).step0 s66)
     exact front_val hat rfl (ov_load1 rfl t_agg_79 (OB.cell ob69 (j := 0) rfl)) s66.sub (by exact rfl)
    ·intro a w64 h65 s66 hat hF
     exact front_val (At.cons hat (hF 4 37 rfl rfl)) rfl (ov_nilCheck rfl) s66.sub (by exact rfl)
    ·intro a w64 h65 s66 hat hF
     exact front_val (At.cons hat (hF 5 38 rfl rfl)) rfl (ov_fieldAddr rfl t_field_81_1) s66.sub (by exact rfl)
    intro a w64 h65 s66 hat hF
    have ob70 := ((ob52.step0 s56).step0 s66)
    exact front_val (At.cons hat (hF 6 39 rfl rfl)) rfl (ov_load1 rfl t_agg_3 (OB.cell ob70 (j := 1) rfl)) s66.sub (by exact rfl)
   intro a w64 h65 s66 hat hF
   obtain hv0 := hF 0 33 (by decide) rfl
   obtain hv1 := hF 1 34 (by decide) rfl
   obtain hv2 := hF 2 35 (by decide) rfl
   obtain hv3 := hF 3 36 (by decide) rfl
   obtain hv4 := hF 4 37 (by decide) rfl
   obtain hv5 := hF 5 38 (by decide) rfl
   obtain hv6 := hF 6 39 (by decide) rfl
   obtain hv7 := hF 7 40 (by decide) rfl
   refine WL.at_ [(40, vi x29), (39, pt b5 1), (38, pt b5 0), (37, pt b5 0), (36, .string x7), (35, pt b5 0), (34, pt b5 0), (33, pt b5 0), (0, .func (.yield l1) #[] #[]), (1, pt b3 0), (3, .func (.func 67) #[pt b5 0] #[]), (4, .int .u8 c62)] (At.cons (At.cons (At.cons (At.cons (At.cons (At.cons (At.cons (At.cons hat hv0) hv1) hv2) hv3) hv4) hv5) hv6) hv7) ?_
   have S71 := S61.trans0 s66
   obtain ⟨t72, ht73, HF⟩ := bind_some HF
   refine Wv rfl (ov_sliceSL rfl rfl t_string_9 ht73) ?_
   obtain ⟨r74, hr75, HF⟩ := bind_some HF
   refine Wc rfl (oc_func (vs := [.string t72, .string b'72]) rfl t_ent_68) (ok_strings_HasPrefix _ hr75 S71.sub) ?_
   have ob80 := ((ob51.step0 s56).step0 s66)
   have ob81 := ((ob52.step0 s56).step0 s66)
   have hJ82 := (hYst _ _ _ _ _ _ (hYst _ _ _ _ _ _ ob53 s56 ym_nil) s66 ym_nil)
   rintro _ w77 ⟨h78, s79, rfl⟩
   have S83 := S71.trans0 s79
   refine Wa rfl rfl <| WL.nil <| WQ.seqN <| WC.cF HF rfl (fun HF => ?_) (fun HF => ?_)
   ·refine WC.region ?_
    have ob85 := (ob80.step0 s79)
    refine Wv rfl (ov_load1 rfl t_agg_79 (OB.cell ob85 (j := 0) rfl)) <| Wv rfl (ov_makeMethod (us := [pt b5 0]) (vs := []) rfl rfl) <| Wa rfl rfl <| WL.nil <| WQ.blockN <| WQ.seqN <| WC.seq <| WC.region <| Wm rfl rfl ?_
    have ob86 := (ob81.step0 s79)
    obtain ⟨r87, hr88, HF⟩ := bind_some HF
    refine Wc rfl (oc_bound (us := [pt b5 0]) (vs := []) (caps := []) rfl rfl t_ent_69) (ok_lexis_scanner_time _ hr88 S83.sub ob86) ?_
    have hJ95 := (hYst _ _ _ _ _ _ hJ82 s79 ym_nil)
    rintro _ w90 ⟨h91, s92, _, _, rfl, ⟨cs93, rfl, r94⟩, rfl⟩
    have S96 := S83.trans0 s92
    refine Wm rfl rfl <| Wv rfl (ov_extract rfl rfl) <| Wv rfl (ov_extract rfl rfl) ?_
    have ob97 := (ob85.step0 s92)
    have ob98 := (ob86.step0 s92)
    have hJ99 := (hYst _ _ _ _ _ _ hJ95 s92 ym_nil)
    refine WL.alloc (zs := [vi 0, .string b'110, vi 0]) rfl rfl t_zero_38 rfl S96.sub (fun w100 b101 hb102 s103 ob104 => ?_)
    have ne105 : b3 ≠ b101 := ob97.ne_new hb102
    have ne106 : b5 ≠ b101 := ob98.ne_new hb102
    have g107 : w0.heap.size ≤ b101 := by rw [hb102]; exact S96.size
    have S108 := S96.trans0 s103
    obtain rfl := rp_Tok.1 (Rp.mono (s103.le) r94)
    refine WL.store (vs := [vi r87.1.kind, .string r87.1.text, vi r87.1.pos]) rfl rfl rfl rfl t_size_38 (one_cons rfl (one_cons rfl (one_cons rfl one_nil))) ob104 S108.sub (by simp) (ds := [vi r87.1.kind, .string r87.1.text, vi r87.1.pos]) rfl (fun w109 s110 ob111 => ?_)
    have S112 := S108.trans1 s110 (.inr g107)
    refine Wa rfl rfl <| WL.nil <| WQ.seqN <| WC.seq <| WC.region ?_
    have ob113 := ((ob97.step0 s103).step1 s110 ne105)
    refine Wv rfl (ov_load1 rfl t_agg_79 (OB.cell ob113 (j := 0) rfl)) <| Wv rfl (ov_nilCheck rfl) <| Wv rfl (ov_fieldAddr rfl t_field_81_1) ?_
    have ob114 := ((ob98.step0 s103).step1 s110 ne106)
    refine Wv rfl (ov_load1 rfl t_agg_3 (OB.cell ob114 (j := 1) rfl)) <| Wv rfl (ov_fieldAddr rfl t_field_38_2) <| WL.store (vs := [vi x29]) rfl rfl rfl rfl t_size_3 (one_cons rfl one_nil) ob111 S112.sub (by simp) (ds := [vi r87.1.kind, .string r87.1.text, vi x29]) rfl (fun w115 s116 ob117 => ?_)
    have S118 := S112.trans1 s116 (.inr g107)
    refine WL.nil <| WQ.seqN <| WC.join (fun E w149 => ∃ (h148 : Hp) (x154 : YS), lexis_scanner_tokens_1_j4 j33 (tie_lexis_scanner_tokens_1 j33) x7 x29 r87 x154 = some r ∧ E = [(0, .func (.yield l1) #[] #[]), (1, pt b3 0), (6, vi r87.2)] ∧ Stp ([b5] ++ MY) w0 h0 w149 h148 ∧ Hle h91 h148 ∧ OB w149 h148 b3 T4 [pt b5 0] ∧ OB w149 h148 b5 T6 [.string x7, vi x29] ∧ J x154 w149 h148) ?_ ?_
    ·rintro E w149 ⟨h148, x154, HF, rfl, S151, le150, ob152, ob153, ob155⟩
     refine WC.region <| Wv rfl (ov_load1 rfl t_agg_79 (OB.cell ob152 (j := 0) rfl)) <| Wv rfl (ov_nilCheck rfl) <| Wv rfl (ov_fieldAddr rfl t_field_81_1) <| Wv rfl (ov_load1 rfl t_agg_3 (OB.cell ob153 (j := 1) rfl)) <| Wm rfl rfl <| Wv rfl (ov_add rfl rfl) <| Wv rfl (ov_nilCheck rfl) <| Wv rfl (ov_fieldAddr rfl t_field_81_1) <| WL.store (vs := [vi (IntKind.i64.wrap (x29 + r87.2))]) rfl rfl rfl rfl t_size_3 (one_cons rfl one_nil) ob153 S151.sub (by simp) (ds := [.string x7, vi (IntKind.i64.wrap (x29 + r87.2))]) rfl (fun w156 s157 ob158 => ?_)
     have S159 := S151.trans1 s157 (.inl (by simp))
     refine WL.nil <| WQ.blockN <| WQ.seqN <| WC.region ?_
     have ob160 := (ob152.step1 s157 ne11)
     refine Wv rfl (ov_load1 rfl t_agg_79 (OB.cell ob160 (j := 0) rfl)) ?_
     obtain ⟨r161, hr162, HF⟩ := bind_some HF
     refine Wc rfl (oc_func (vs := [pt b5 0]) rfl t_ent_66) (ok_lexis_scanner_skip _ hr162 S159.sub ob158) ?_
     have hJ167 := (hYst _ _ _ _ _ _ ob155 s157 (ym_cons ne13 ob153 ym_nil))
     rintro v163 w164 ⟨h165, s166, rfl, ob168⟩
     have S169 := S159.trans s166 (in_cons (.inl (by simp)) in_nil)
     refine WL.nil ?_
     have ob542 := (ob160.step1 s166 ne11)
     have hJ543 := (hYst _ _ _ _ _ _ hJ167 s166 (ym_cons ne13 ob158 ym_nil))
     refine WQ.loopN <| WP.to [0, 1] [(0, .func (.yield l1) #[] #[]), (1, pt b3 0)] rfl ?_
     exact IHL34 j33 (Nat.le_refl _) _ _ ⟨h165, r161, x154, HF, rfl, S169, (le26).trans ((le49).trans ((s56.le).trans ((s66.le).trans ((s79.le).trans ((s92.le).trans ((s103.le).trans ((s110.le).trans ((s116.le).trans ((le150).trans ((s157.le).trans s166.le)))))))))), ob542, ob168, hJ543⟩
    intro J170
    refine WC.join (fun E w134 => ∃ (h133 : Hp) (x137 : Bool) (x140 : YS), lexis_scanner_tokens_1_j3 j33 (tie_lexis_scanner_tokens_1 j33) x7 x29 r87 x137 x140 = some r ∧ E = [(0, .func (.yield l1) #[] #[]), (1, pt b3 0), (6, vi r87.2), (78, .bool x137)] ∧ Stp ([b5] ++ MY) w0 h0 w134 h133 ∧ Hle h91 h133 ∧ OB w134 h133 b3 T4 [pt b5 0] ∧ OB w134 h133 b5 T6 [.string x7, vi x29] ∧ J x140 w134 h133) ?_ ?_
    ·rintro E w134 ⟨h133, x137, x140, HF, rfl, S136, le135, ob138, ob139, ob141⟩
     refine WC.cF HF rfl (fun HF => ?_) (fun HF => ?_)
     ·refine WC.ret <| WQ.thenRet <| WQ.blockRet <| WQ.thenRet <| WQ.thenRet <| WQ.blockRet <| WQ.ret0 rfl ?_
      obtain rfl := Option.some.inj HF
      exact ⟨_, rfl, h133, S136, rfl, ob139, ob141⟩
     refine WC.skip <| WC.to [0, 1, 6] _ rfl ?_
     exact J170 ⟨h133, x140, HF, rfl, S136, le135, ob138, ob139, ob141⟩
    intro J143
    refine WC.regionI <| WI.val (fun _ => trivial) rfl rfl rfl (fun c h => by cases h) (ov_move rfl) <| WI.val (fun _ => trivial) rfl rfl rfl (fun c h => by cases h) (ov_loadN (cs := [vi r87.1.kind, .string r87.1.text, vi x29]) rfl t_agg_38 t_size_38 (OB.cells ob117 0 rfl)) <| WI.val (fun _ => trivial) rfl rfl rfl (fun c h => by cases h) (ov_move rfl) ?_
    have hJ119 := (hYst _ _ _ _ _ _ (hYst _ _ _ _ _ _ (hYst _ _ _ _ _ _ hJ99 s103 ym_nil) s110 (ym_cons (ny_new hMY g107) ob104 ym_nil)) s116 (ym_cons (ny_new hMY g107) ob111 ym_nil))
    have ob129 := (ob113.step1 s116 ne105)
    have ob130 := (ob114.step1 s116 ne106)
    obtain ⟨r120, hr121, HF⟩ := bind_some HF
    refine WI.yield (vs := [.agg #[vi r87.1.kind, .string r87.1.text, vi x29], vi r87.2]) rfl rfl rfl rfl (hY _ _ _ _ _ _ _ hr121 hJ119 S118.size S118.sub (rp_Tok.2 rfl)) ?_
    rintro _ w122 ⟨rfl, h123, M124, hJ125, s126, hM127, hOB128⟩
    have S131 := S118.trans s126 (fun i hi => (hM127 i hi).imp (fun q => List.mem_append_right _ q) id)
    refine WI.val (fun _ => trivial) rfl rfl rfl (fun c h => by cases h) (ov_not rfl) <| WI.val (fun _ => trivial) rfl rfl rfl (fun c h => by cases h) (ov_move rfl) <| WI.split 75 (b := !r120.1) rfl (fun hb132 => ?_) (fun hb132 => ?_)
    ·replace HF := bif_t hb132 HF
     refine WI.pass (fun _ => trivial) rfl rfl rfl <| WI.pass (fun _ => trivial) rfl rfl rfl <| WI.val (fun _ => trivial) rfl rfl rfl (fun c h => by cases h) (ov_pickT rfl rfl) <| WI.nil ?_
     have ob144 := (ob129.step s126 (hOB128 _ _ _ ob129 ne12))
     have ob145 := (ob130.step s126 (hOB128 _ _ _ ob130 ne13))
     refine WC.to [0, 1, 6, 78] _ rfl ?_
     exact J143 ⟨h123, true, r120.2, HF, rfl, S131, s126.le, ob144, ob145, hJ125⟩
    replace HF := bif_f hb132 HF
    refine WI.val (fun _ => trivial) rfl rfl rfl (fun c h => by cases h) (ov_move rfl) <| WI.val (fun _ => trivial) rfl rfl rfl (fun c h => by cases h) (ov_eql rfl rfl) <| WI.val (fun _ => trivial) rfl rfl rfl (fun c h => by cases h) (ov_pickF rfl rfl) <| WI.nil ?_
    have ob146 := (ob129.step s126 (hOB128 _ _ _ ob129 ne12))
    have ob147 := (ob130.step s126 (hOB128 _ _ _ ob130 ne13))
    refine WC.to [0, 1, 6, 78] _ rfl ?_
    exact J143 ⟨h123, (r87.2 : Int) == 0, r120.2, HF, rfl, S131, s126.le, ob146, ob147, hJ125⟩
   refine WC.seq <| WC.region <| Wm rfl rfl ?_
   obtain ⟨r171, hr172, HF⟩ := bind_some HF
   refine Wc rfl (oc_func (vs := [.int .u8 c62]) rfl t_ent_70) (ok_lexis_isLetter _ hr172 S83.sub) ?_
   have ob177 := (ob80.step0 s79)
   have ob178 := (ob81.step0 s79)
   have hJ179 := (hYst _ _ _ _ _ _ hJ82 s79 ym_nil)
   rintro _ w174 ⟨h175, s176, rfl⟩
   have S180 := S83.trans0 s176
   refine Wa rfl rfl <| WL.nil <| WQ.seqN <| WC.cF HF rfl (fun HF => ?_) (fun HF => ?_)
   ·refine WC.region ?_
    have ob182 := (ob177.step0 s176)
    refine Wv rfl (ov_load1 rfl t_agg_79 (OB.cell ob182 (j := 0) rfl)) <| Wv rfl (ov_makeMethod (us := [pt b5 0]) (vs := []) rfl rfl) <| Wa rfl rfl <| WL.nil <| WQ.blockN <| WQ.seqN <| WC.seq <| WC.region <| Wm rfl rfl ?_
    have ob183 := (ob178.step0 s176)
    obtain ⟨r184, hr185, HF⟩ := bind_some HF
    refine Wc rfl (oc_bound (us := [pt b5 0]) (vs := []) (caps := []) rfl rfl t_ent_71) (ok_lexis_scanner_word _ hr185 S180.sub ob183) ?_
    have hJ192 := (hYst _ _ _ _ _ _ hJ179 s176 ym_nil)
    rintro _ w187 ⟨h188, s189, _, _, rfl, ⟨cs190, rfl, r191⟩, rfl⟩
    have S193 := S180.trans0 s189
    refine Wm rfl rfl <| Wv rfl (ov_extract rfl rfl) <| Wv rfl (ov_extract rfl rfl) ?_
    have ob194 := (ob182.step0 s189)
    have ob195 := (ob183.step0 s189)
    have hJ196 := (hYst _ _ _ _ _ _ hJ192 s189 ym_nil)
    refine WL.alloc (zs := [vi 0, .string b'110, vi 0]) rfl rfl t_zero_38 rfl S193.sub (fun w197 b198 hb199 s200 ob201 => ?_)
    have ne202 : b3 ≠ b198 := ob194.ne_new hb199
    have ne203 : b5 ≠ b198 := ob195.ne_new hb199
    have g204 : w0.heap.size ≤ b198 := by rw [hb199]; exact S193.size
    have S205 := S193.trans0 s200
    obtain rfl := rp_Tok.1 (Rp.mono (s200.le) r191)
    refine WL.store (vs := [vi r184.1.kind, .string r184.1.text, vi r184.1.pos]) rfl rfl rfl rfl t_size_38 (one_cons rfl (one_cons rfl (one_cons rfl one_nil))) ob201 S205.sub (by simp) (ds := [vi r184.1.kind, .string r184.1.text, vi r184.1.pos]) rfl (fun w206 s207 ob208 => ?_)
    have S209 := S205.trans1 s207 (.inr g204)
    refine Wa rfl rfl <| WL.nil <| WQ.seqN <| WC.seq <| WC.region ?_
    have ob210 := ((ob194.step0 s200).step1 s207 ne202)
    refine Wv rfl (ov_load1 rfl t_agg_79 (OB.cell ob210 (j := 0) rfl)) <| Wv rfl (ov_nilCheck rfl) <| Wv rfl (ov_fieldAddr rfl t_field_81_1) ?_
    have ob211 := ((ob195.step0 s200).step1 s207 ne203)
    refine Wv rfl (ov_load1 rfl t_agg_3 (OB.cell ob211 (j := 1) rfl)) <| Wv rfl (ov_fieldAddr rfl t_field_38_2) <| WL.store (vs := [vi x29]) rfl rfl rfl rfl t_size_3 (one_cons rfl one_nil) ob208 S209.sub (by simp) (ds := [vi r184.1.kind, .string r184.1.text, vi x29]) rfl (fun w212 s213 ob214 => ?_)
    have S215 := S209.trans1 s213 (.inr g204)
    refine WL.nil <| WQ.seqN <| WC.join (fun E w246 => ∃ (h245 : Hp) (x251 : YS), lexis_scanner_tokens_1_j6 j33 (tie_lexis_scanner_tokens_1 j33) x7 x29 r184 x251 = some r ∧ E = [(0, .func (.yield l1) #[] #[]), (1, pt b3 0), (6, vi r184.2)] ∧ Stp ([b5] ++ MY) w0 h0 w246 h245 ∧ Hle h188 h245 ∧ OB w246 h245 b3 T4 [pt b5 0] ∧ OB w246 h245 b5 T6 [.string x7, vi x29] ∧ J x251 w246 h245) ?_ ?_
    ·rintro E w246 ⟨h245, x251, HF, rfl, S248, le247, ob249, ob250, ob252⟩
     refine WC.region <| Wv rfl (ov_load1 rfl t_agg_79 (OB.cell ob249 (j := 0) rfl)) <| Wv rfl (ov_nilCheck rfl) <| Wv rfl (ov_fieldAddr rfl t_field_81_1) <| Wv rfl (ov_load1 rfl t_agg_3 (OB.cell ob250 (j := 1) rfl)) <| Wm rfl rfl <| Wv rfl (ov_add rfl rfl) <| Wv rfl (ov_nilCheck rfl) <| Wv rfl (ov_fieldAddr rfl t_field_81_1) <| WL.store (vs := [vi (IntKind.i64.wrap (x29 + r184.2))]) rfl rfl rfl rfl t_size_3 (one_cons rfl one_nil) ob250 S248.sub (by simp) (ds := [.string x7, vi (IntKind.i64.wrap (x29 + r184.2))]) rfl (fun w253 s254 ob255 => ?_)
     have S256 := S248.trans1 s254 (.inl (by simp))
     refine WL.nil <| WQ.blockN <| WQ.seqN <| WC.region ?_
     have ob257 := (ob249.step1 s254 ne11)
     refine Wv rfl (ov_load1 rfl t_agg_79 (OB.cell ob257 (j := 0) rfl)) ?_
     obtain ⟨r258, hr259, HF⟩ := bind_some HF
     refine Wc rfl (oc_func (vs := [pt b5 0]) rfl t_ent_66) (ok_lexis_scanner_skip _ hr259 S256.sub ob255) ?_
     have hJ264 := (hYst _ _ _ _ _ _ ob252 s254 (ym_cons ne13 ob250 ym_nil))
     rintro v260 w261 ⟨h262, s263, rfl, ob265⟩
     have S266 := S256.trans s263 (in_cons (.inl (by simp)) in_nil)
     refine WL.nil ?_
     have ob544 := (ob257.step1 s263 ne11)
     have hJ545 := (hYst _ _ _ _ _ _ hJ264 s263 (ym_cons ne13 ob255 ym_nil))
     refine WQ.loopN <| WP.to [0, 1] [(0, .func (.yield l1) #[] #[]), (1, pt b3 0)] rfl ?_
     exact IHL34 j33 (Nat.le_refl _) _ _ ⟨h262, r258, x251, HF, rfl, S266, (le26).trans ((le49).trans ((s56.le).trans ((s66.le).trans ((s79.le).trans ((s176.le).trans ((s189.le).trans ((s200.le).trans ((s207.le).trans ((s213.le).trans ((le247).trans ((s254.le).trans s263.le))))))))))), ob544, ob265, hJ545⟩
    intro J267
    refine WC.join (fun E w231 => ∃ (h230 : Hp) (x234 : Bool) (x237 : YS), lexis_scanner_tokens_1_j5 j33 (tie_lexis_scanner_tokens_1 j33) x7 x29 r184 x234 x237 = some r ∧ E = [(0, .func (.yield l1) #[] #[]), (1, pt b3 0), (6, vi r184.2), (78, .bool x234)] ∧ Stp ([b5] ++ MY) w0 h0 w231 h230 ∧ Hle h188 h230 ∧ OB w231 h230 b3 T4 [pt b5 0] ∧ OB w231 h230 b5 T6 [.string x7, vi x29] ∧ J x237 w231 h230) ?_ ?_
    ·rintro E w231 ⟨h230, x234, x237, HF, rfl, S233, le232, ob235, ob236, ob238⟩
     refine WC.cF HF rfl (fun HF => ?_) (fun HF => ?_)
     ·refine WC.ret <| WQ.thenRet <| WQ.blockRet <| WQ.thenRet <| WQ.thenRet <| WQ.blockRet <| WQ.ret0 rfl ?_
      obtain rfl := Option.some.inj HF
      exact ⟨_, rfl, h230, S233, rfl, ob236, ob238⟩
     refine WC.skip <| WC.to [0, 1, 6] _ rfl ?_
     exact J267 ⟨h230, x237, HF, rfl, S233, le232, ob235, ob236, ob238⟩
    intro J240
    refine WC.regionI <| WI.val (fun _ => trivial) rfl rfl rfl (fun c h => by cases h) (ov_move rfl) <| WI.val (fun _ => trivial) rfl rfl rfl (fun c h => by cases h) (ov_loadN (cs := [vi r184.1.kind, .string r184.1.text, vi x29]) rfl t_agg_38 t_size_38 (OB.cells ob214 0 rfl)) <| WI.val (fun _ => trivial) rfl rfl rfl (fun c h => by cases h) (ov_move rfl) ?_
    have hJ216 := (hYst _ _ _ _ _ _ (hYst _ _ _ _ _ _ (hYst _ _ _ _ _ _ hJ196 s200 ym_nil) s207 (ym_cons (ny_new hMY g204) ob201 ym_nil)) s213 (ym_cons (ny_new hMY g204) ob208 ym_nil))
    have ob226 := (ob210.step1 s213 ne202)
    have ob227 := (ob211.step1 s213 ne203)
    obtain ⟨r217, hr218, HF⟩ := bind_some HF
    refine WI.yield (vs := [.agg #[vi r184.1.kind, .string r184.1.text, vi x29], vi r184.2]) rfl rfl rfl rfl (hY _ _ _ _ _ _ _ hr218 hJ216 S215.size S215.sub (rp_Tok.2 rfl)) ?_
    rintro _ w219 ⟨rfl, h220, M221, hJ222, s223, hM224, hOB225⟩
    have S228 := S215.trans s223 (fun i hi => (hM224 i hi).imp (fun q => List.mem_append_right _ q) id)
    refine WI.val (fun _ => trivial) rfl rfl rfl (fun c h => by cases h) (ov_not rfl) <| WI.val (fun _ => trivial) rfl rfl rfl (fun c h => by cases h) (ov_move rfl) <| WI.split 75 (b := !r217.1) rfl (fun hb229 => ?_) (fun hb229 => ?_)
    ·replace HF := bif_t hb229 HF
     refine WI.pass (fun _ => trivial) rfl rfl rfl <| WI.pass (fun _ => trivial) rfl rfl rfl <| WI.val (fun _ => trivial) rfl rfl rfl (fun c h => by cases h) (ov_pickT rfl rfl) <| WI.nil ?_
     have ob241 := (ob226.step s223 (hOB225 _ _ _ ob226 ne12))
     have ob242 := (ob227.step s223 (hOB225 _ _ _ ob227 ne13))
     refine WC.to [0, 1, 6, 78] _ rfl ?_
     exact J240 ⟨h220, true, r217.2, HF, rfl, S228, s223.le, ob241, ob242, hJ222⟩
    replace HF := bif_f hb229 HF
    refine WI.val (fun _ => trivial) rfl rfl rfl (fun c h => by cases h) (ov_move rfl) <| WI.val (fun _ => trivial) rfl rfl rfl (fun c h => by cases h) (ov_eql rfl rfl) <| WI.val (fun _ => trivial) rfl rfl rfl (fun c h => by cases h) (ov_pickF rfl rfl) <| WI.nil ?_
    have ob243 := (ob226.step s223 (hOB225 _ _ _ ob226 ne12))
    have ob244 := (ob227.step s223 (hOB225 _ _ _ ob227 ne13))
    refine WC.to [0, 1, 6, 78] _ rfl ?_
    exact J240 ⟨h220, (r184.2 : Int) == 0, r217.2, HF, rfl, S228, s223.le, ob243, ob244, hJ222⟩
   refine WC.seq <| WC.region <| Wm rfl rfl ?_
   obtain ⟨r268, hr269, HF⟩ := bind_some HF
   refine Wc rfl (oc_func (vs := [.int .u8 c62]) rfl t_ent_72) (ok_lexis_isDigit _ hr269 S180.sub) ?_
   have ob274 := (ob177.step0 s176)
   have ob275 := (ob178.step0 s176)
   have hJ276 := (hYst _ _ _ _ _ _ hJ179 s176 ym_nil)
   rintro _ w271 ⟨h272, s273, rfl⟩
   have S277 := S180.trans0 s273
   refine Wa rfl rfl <| WL.nil <| WQ.seqN <| WC.cF HF rfl (fun HF => ?_) (fun HF => ?_)
   ·refine WC.region ?_
    have ob279 := (ob274.step0 s273)
    refine Wv rfl (ov_load1 rfl t_agg_79 (OB.cell ob279 (j := 0) rfl)) <| Wv rfl (ov_makeMethod (us := [pt b5 0]) (vs := []) rfl rfl) <| Wa rfl rfl <| WL.nil <| WQ.blockN <| WQ.seqN <| WC.seq <| WC.region <| Wm rfl rfl ?_
    have ob280 := (ob275.step0 s273)
    obtain ⟨r281, hr282, HF⟩ := bind_some HF
    refine Wc rfl (oc_bound (us := [pt b5 0]) (vs := []) (caps := []) rfl rfl t_ent_73) (ok_lexis_scanner_numeral _ hr282 S277.sub ob280) ?_
    have hJ289 := (hYst _ _ _ _ _ _ hJ276 s273 ym_nil)
    rintro _ w284 ⟨h285, s286, _, _, rfl, ⟨cs287, rfl, r288⟩, rfl⟩
    have S290 := S277.trans0 s286
    refine Wm rfl rfl <| Wv rfl (ov_extract rfl rfl) <| Wv rfl (ov_extract rfl rfl) ?_
    have ob291 := (ob279.step0 s286)
    have ob292 := (ob280.step0 s286)
    have hJ293 := (hYst _ _ _ _ _ _ hJ289 s286 ym_nil)
    refine WL.alloc (zs := [vi 0, .string b'110, vi 0]) rfl rfl t_zero_38 rfl S290.sub (fun w294 b295 hb296 s297 ob298 => ?_)
    have ne299 : b3 ≠ b295 := ob291.ne_new hb296
    have ne300 : b5 ≠ b295 := ob292.ne_new hb296
    have g301 : w0.heap.size ≤ b295 := by rw [hb296]; exact S290.size
    have S302 := S290.trans0 s297
    obtain rfl := rp_Tok.1 (Rp.mono (s297.le) r288)
    refine WL.store (vs := [vi r281.1.kind, .string r281.1.text, vi r281.1.pos]) rfl rfl rfl rfl t_size_38 (one_cons rfl (one_cons rfl (one_cons rfl one_nil))) ob298 S302.sub (by simp) (ds := [vi r281.1.kind, .string r281.1.text, vi r281.1.pos]) rfl (fun w303 s304 ob305 => ?_)
    have S306 := S302.trans1 s304 (.inr g301)
    refine Wa rfl rfl <| WL.nil <| WQ.seqN <| WC.seq <| WC.region ?_
    have ob307 := ((ob291.step0 s297).step1 s304 ne299)
    refine Wv rfl (ov_load1 rfl t_agg_79 (OB.cell ob307 (j := 0) rfl)) <| Wv rfl (ov_nilCheck rfl) <| Wv rfl (ov_fieldAddr rfl t_field_81_1) ?_
    have ob308 := ((ob292.step0 s297).step1 s304 ne300)
    refine Wv rfl (ov_load1 rfl t_agg_3 (OB.cell ob308 (j := 1) rfl)) <| Wv rfl (ov_fieldAddr rfl t_field_38_2) <| WL.store (vs := [vi x29]) rfl rfl rfl rfl t_size_3 (one_cons rfl one_nil) ob305 S306.sub (by simp) (ds := [vi r281.1.kind, .string r281.1.text, vi x29]) rfl (fun w309 s310 ob311 => ?_)
    have S312 := S306.trans1 s310 (.inr g301)
    refine WL.nil <| WQ.seqN <| WC.join (fun E w343 => ∃ (h342 : Hp) (x348 : YS), lexis_scanner_tokens_1_j8 j33 (tie_lexis_scanner_tokens_1 j33) x7 x29 r281 x348 = some r ∧ E = [(0, .func (.yield l1) #[] #[]), (1, pt b3 0), (6, vi r281.2)] ∧ Stp ([b5] ++ MY) w0 h0 w343 h342 ∧ Hle h285 h342 ∧ OB w343 h342 b3 T4 [pt b5 0] ∧ OB w343 h342 b5 T6 [.string x7, vi x29] ∧ J x348 w343 h342) ?_ ?_
    ·rintro E w343 ⟨h342, x348, HF, rfl, S345, le344, ob346, ob347, ob349⟩
     refine WC.region <| Wv rfl (ov_load1 rfl t_agg_79 (OB.cell ob346 (j := 0) rfl)) <| Wv rfl (ov_nilCheck rfl) <| Wv rfl (ov_fieldAddr rfl t_field_81_1) <| Wv rfl (ov_load1 rfl t_agg_3 (OB.cell ob347 (j := 1) rfl)) <| Wm rfl rfl <| Wv rfl (ov_add rfl rfl) <| Wv rfl (ov_nilCheck rfl) <| Wv rfl (ov_fieldAddr rfl t_field_81_1) <| WL.store (vs := [vi (IntKind.i64.wrap (x29 + r281.2))]) rfl rfl rfl rfl t_size_3 (one_cons rfl one_nil) ob347 S345.sub (by simp) (ds := [.string x7, vi (IntKind.i64.wrap (x29 + r281.2))]) rfl (fun w350 s351 ob352 => ?_)
     have S353 := S345.trans1 s351 (.inl (by simp))
     refine WL.nil <| WQ.blockN <| WQ.seqN <| WC.region ?_
     have ob354 := (ob346.step1 s351 ne11)
     refine Wv rfl (ov_load1 rfl t_agg_79 (OB.cell ob354 (j := 0) rfl)) ?_
     obtain ⟨r355, hr356, HF⟩ := bind_some HF
     refine Wc rfl (oc_func (vs := [pt b5 0]) rfl t_ent_66) (ok_lexis_scanner_skip _ hr356 S353.sub ob352) ?_
     have hJ361 := (hYst _ _ _ _ _ _ ob349 s351 (ym_cons ne13 ob347 ym_nil))
     rintro v357 w358 ⟨h359, s360, rfl, ob362⟩
     have S363 := S353.trans s360 (in_cons (.inl (by simp)) in_nil)
     refine WL.nil ?_
     have ob546 := (ob354.step1 s360 ne11)
     have hJ547 := (hYst _ _ _ _ _ _ hJ361 s360 (ym_cons ne13 ob352 ym_nil))
     refine WQ.loopN <| WP.to [0, 1] [(0, .func (.yield l1) #[] #[]), (1, pt b3 0)] rfl ?_
     exact IHL34 j33 (Nat.le_refl _) _ _ ⟨h359, r355, x348, HF, rfl, S363, (le26).trans ((le49).trans ((s56.le).trans ((s66.le).trans ((s79.le).trans ((s176.le).trans ((s273.le).trans ((s286.le).trans ((s297.le).trans ((s304.le).trans ((s310.le).trans ((le344).trans ((s351.le).trans s360.le)))))))))))), ob546, ob362, hJ547⟩
    intro J364
    refine WC.join (fun E w328 => ∃ (h327 : Hp) (x331 : Bool) (x334 : YS), lexis_scanner_tokens_1_j7 j33 (tie_lexis_scanner_tokens_1 j33) x7 x29 r281 x331 x334 = some r ∧ E = [(0, .func (.yield l1) #[] #[]), (1, pt b3 0), (6, vi r281.2), (78, .bool x331)] ∧ Stp ([b5] ++ MY) w0 h0 w328 h327 ∧ Hle h285 h327 ∧ OB w328 h327 b3 T4 [pt b5 0] ∧ OB w328 h327 b5 T6 [.string x7, vi x29] ∧ J x334 w328 h327) ?_ ?_
    ·rintro E w328 ⟨h327, x331, x334, HF, rfl, S330, le329, ob332, ob333, ob335⟩
     refine WC.cF HF rfl (fun HF => ?_) (fun HF => ?_)
     ·refine WC.ret <| WQ.thenRet <| WQ.blockRet <| WQ.thenRet <| WQ.thenRet <| WQ.blockRet <| WQ.ret0 rfl ?_
      obtain rfl := Option.some.inj HF
      exact ⟨_, rfl, h327, S330, rfl, ob333, ob335⟩
     refine WC.skip <| WC.to [0, 1, 6] _ rfl ?_
     exact J364 ⟨h327, x334, HF, rfl, S330, le329, ob332, ob333, ob335⟩
    intro J337
    refine WC.regionI <| WI.val (fun _ => trivial) rfl rfl rfl (fun c h => by cases h) (ov_move rfl) <| WI.val (fun _ => trivial) rfl rfl rfl (fun c h => by cases h) (ov_loadN (cs := [vi r281.1.kind, .string r281.1.text, vi x29]) rfl t_agg_38 t_size_38 (OB.cells ob311 0 rfl)) <| WI.val (fun _ => trivial) rfl rfl rfl (fun c h => by cases h) (ov_move rfl) ?_
    have hJ313 := (hYst _ _ _ _ _ _ (hYst _ _ _ _ _ _ (hYst _ _ _ _ _ _ hJ293 s297 ym_nil) s304 (ym_cons (ny_new hMY g301) ob298 ym_nil)) s310 (ym_cons (ny_new hMY g301) ob305 ym_nil))
    have ob323 := (ob307.step1 s310 ne299)
    have ob324 := (ob308.step1 s310 ne300)
    obtain ⟨r314, hr315, HF⟩ := bind_some HF
    refine WI.yield (vs := [.agg #[vi r281.1.kind, .string r281.1.text, vi x29], vi r281.2]) rfl rfl rfl rfl (hY _ _ _ _ _ _ _ hr315 hJ313 S312.size S312.sub (rp_Tok.2 rfl)) ?_
    rintro _ w316 ⟨rfl, h317, M318, hJ319, s320, hM321, hOB322⟩
    have S325 := S312.trans s320 (fun i hi => (hM321 i hi).imp (fun q => List.mem_append_right _ q) id)
    refine WI.val (fun _ => trivial) rfl rfl rfl (fun c h => by cases h) (ov_not rfl) <| WI.val (fun _ => trivial) rfl rfl rfl (fun c h => by cases h) (ov_move rfl) <| WI.split 75 (b := !r314.1) rfl (fun hb326 => ?_) (fun hb326 => ?_)
    ·replace HF := bif_t hb326 HF
     refine WI.pass (fun _ => trivial) rfl rfl rfl <| WI.pass (fun _ => trivial) rfl rfl rfl <| WI.val (fun _ => trivial) rfl rfl rfl (fun c h => by cases h) (ov_pickT rfl rfl) <| WI.nil ?_
     have ob338 := (ob323.step s320 (hOB322 _ _ _ ob323 ne12))
     have ob339 := (ob324.step s320 (hOB322 _ _ _ ob324 ne13))
     refine WC.to [0, 1, 6, 78] _ rfl ?_
     exact J337 ⟨h317, true, r314.2, HF, rfl, S325, s320.le, ob338, ob339, hJ319⟩
    replace HF := bif_f hb326 HF
    refine WI.val (fun _ => trivial) rfl rfl rfl (fun c h => by cases h) (ov_move rfl) <| WI.val (fun _ => trivial) rfl rfl rfl (fun c h => by cases h) (ov_eql rfl rfl) <| WI.val (fun _ => trivial) rfl rfl rfl (fun c h => by cases h) (ov_pickF rfl rfl) <| WI.nil ?_
    have ob340 := (ob323.step s320 (hOB322 _ _ _ ob323 ne12))
    have ob341 := (ob324.step s320 (hOB322 _ _ _ ob324 ne13))
    refine WC.to [0, 1, 6, 78] _ rfl ?_
    exact J337 ⟨h317, (r281.2 : Int) == 0, r314.2, HF, rfl, S325, s320.le, ob340, ob341, hJ319⟩
   refine WC.seq <| WC.region <| Wm rfl rfl <| Wv rfl (ov_eql rfl rfl) <| Wa rfl rfl <| WL.nil <| WQ.seqN <| WC.cF HF rfl (fun HF => ?_) (fun HF => ?_)
   ·refine WC.region ?_
    have ob366 := (ob274.step0 s273)
    refine Wv rfl (ov_load1 rfl t_agg_79 (OB.cell ob366 (j := 0) rfl)) <| Wv rfl (ov_makeMethod (us := [pt b5 0]) (vs := []) rfl rfl) <| Wa rfl rfl <| WL.nil <| WQ.blockN <| WQ.seqN <| WC.seq <| WC.region <| Wm rfl rfl ?_
    have ob367 := (ob275.step0 s273)
    obtain ⟨r368, hr369, HF⟩ := bind_some HF
    refine Wc rfl (oc_bound (us := [pt b5 0]) (vs := []) (caps := []) rfl rfl t_ent_74) (ok_lexis_scanner_address _ hr369 S277.sub ob367) ?_
    have hJ376 := (hYst _ _ _ _ _ _ hJ276 s273 ym_nil)
    rintro _ w371 ⟨h372, s373, _, _, rfl, ⟨cs374, rfl, r375⟩, rfl⟩
    have S377 := S277.trans0 s373
    refine Wm rfl rfl <| Wv rfl (ov_extract rfl rfl) <| Wv rfl (ov_extract rfl rfl) ?_
    have ob378 := (ob366.step0 s373)
    have ob379 := (ob367.step0 s373)
    have hJ380 := (hYst _ _ _ _ _ _ hJ376 s373 ym_nil)
    refine WL.alloc (zs := [vi 0, .string b'110, vi 0]) rfl rfl t_zero_38 rfl S377.sub (fun w381 b382 hb383 s384 ob385 => ?_)
    have ne386 : b3 ≠ b382 := ob378.ne_new hb383
    have ne387 : b5 ≠ b382 := ob379.ne_new hb383
    have g388 : w0.heap.size ≤ b382 := by rw [hb383]; exact S377.size
    have S389 := S377.trans0 s384
    obtain rfl := rp_Tok.1 (Rp.mono (s384.le) r375)
    refine WL.store (vs := [vi r368.1.kind, .string r368.1.text, vi r368.1.pos]) rfl rfl rfl rfl t_size_38 (one_cons rfl (one_cons rfl (one_cons rfl one_nil))) ob385 S389.sub (by simp) (ds := [vi r368.1.kind, .string r368.1.text, vi r368.1.pos]) rfl (fun w390 s391 ob392 => ?_)
    have S393 := S389.trans1 s391 (.inr g388)
    refine Wa rfl rfl <| WL.nil <| WQ.seqN <| WC.seq <| WC.region ?_
    have ob394 := ((ob378.step0 s384).step1 s391 ne386)
    refine Wv rfl (ov_load1 rfl t_agg_79 (OB.cell ob394 (j := 0) rfl)) <| Wv rfl (ov_nilCheck rfl) <| Wv rfl (ov_fieldAddr rfl t_field_81_1) ?_
    have ob395 := ((ob379.step0 s384).step1 s391 ne387)
    refine Wv rfl (ov_load1 rfl t_agg_3 (OB.cell ob395 (j := 1) rfl)) <| Wv rfl (ov_fieldAddr rfl t_field_38_2) <| WL.store (vs := [vi x29]) rfl rfl rfl rfl t_size_3 (one_cons rfl one_nil) ob392 S393.sub (by simp) (ds := [vi r368.1.kind, .string r368.1.text, vi x29]) rfl (fun w396 s397 ob398 => ?_)
    have S399 := S393.trans1 s397 (.inr g388)
    refine WL.nil <| WQ.seqN <| WC.join (fun E w430 => ∃ (h429 : Hp) (x435 : YS), lexis_scanner_tokens_1_j10 j33 (tie_lexis_scanner_tokens_1 j33) x7 x29 r368 x435 = some r ∧ E = [(0, .func (.yield l1) #[] #[]), (1, pt b3 0), (6, vi r368.2)] ∧ Stp ([b5] ++ MY) w0 h0 w430 h429 ∧ Hle h372 h429 ∧ OB w430 h429 b3 T4 [pt b5 0] ∧ OB w430 h429 b5 T6 [.string x7, vi x29] ∧ J x435 w430 h429) ?_ ?_
    ·rintro E w430 ⟨h429, x435, HF, rfl, S432, le431, ob433, ob434, ob436⟩
     refine WC.region <| Wv rfl (ov_load1 rfl t_agg_79 (OB.cell ob433 (j := 0) rfl)) <| Wv rfl (ov_nilCheck rfl) <| Wv rfl (ov_fieldAddr rfl t_field_81_1) <| Wv rfl (ov_load1 rfl t_agg_3 (OB.cell ob434 (j := 1) rfl)) <| Wm rfl rfl <| Wv rfl (ov_add rfl rfl) <| Wv rfl (ov_nilCheck rfl) <| Wv rfl (ov_fieldAddr rfl t_field_81_1) <| WL.store (vs := [vi (IntKind.i64.wrap (x29 + r368.2))]) rfl rfl rfl rfl t_size_3 (one_cons rfl one_nil) ob434 S432.sub (by simp) (ds := [.string x7, vi (IntKind.i64.wrap (x29 + r368.2))]) rfl (fun w437 s438 ob439 => ?_)
     have S440 := S432.trans1 s438 (.inl (by simp))
     refine WL.nil <| WQ.blockN <| WQ.seqN <| WC.region ?_
     have ob441 := (ob433.step1 s438 ne11)
     refine Wv rfl (ov_load1 rfl t_agg_79 (OB.cell ob441 (j := 0) rfl)) ?_
     obtain ⟨r442, hr443, HF⟩ := bind_some HF
     refine Wc rfl (oc_func (vs := [pt b5 0]) rfl t_ent_66) (ok_lexis_scanner_skip _ hr443 S440.sub ob439) ?_
     have hJ448 := (hYst _ _ _ _ _ _ ob436 s438 (ym_cons ne13 ob434 ym_nil))
     rintro v444 w445 ⟨h446, s447, rfl, ob449⟩
     have S450 := S440.trans s447 (in_cons (.inl (by simp)) in_nil)
     refine WL.nil ?_
     have ob548 := (ob441.step1 s447 ne11)
     have hJ549 := (hYst _ _ _ _ _ _ hJ448 s447 (ym_cons ne13 ob439 ym_nil))
     refine WQ.loopN <| WP.to [0, 1] [(0, .func (.yield l1) #[] #[]), (1, pt b3 0)] rfl ?_
     exact IHL34 j33 (Nat.le_refl _) _ _ ⟨h446, r442, x435, HF, rfl, S450, (le26).trans ((le49).trans ((s56.le).trans ((s66.le).trans ((s79.le).trans ((s176.le).trans ((s273.le).trans ((s373.le).trans ((s384.le).trans ((s391.le).trans ((s397.le).trans ((le431).trans ((s438.le).trans s447.le)))))))))))), ob548, ob449, hJ549⟩
    intro J451
    refine WC.join (fun E w415 => ∃ (h414 : Hp) (x418 : Bool) (x421 : YS), lexis_scanner_tokens_1_j9 j33 (tie_lexis_scanner_tokens_1 j33) x7 x29 r368 x418 x421 = some r ∧ E = [(0, .func (.yield l1) #[] #[]), (1, pt b3 0), (6, vi r368.2), (78, .bool x418)] ∧ Stp ([b5] ++ MY) w0 h0 w415 h414 ∧ Hle h372 h414 ∧ OB w415 h414 b3 T4 [pt b5 0] ∧ OB w415 h414 b5 T6 [.string x7, vi x29] ∧ J x421 w415 h414) ?_ ?_
    ·rintro E w415 ⟨h414, x418, x421, HF, rfl, S417, le416, ob419, ob420, ob422⟩
     refine WC.cF HF rfl (fun HF => ?_) (fun HF => ?_)
     ·refine WC.ret <| WQ.thenRet <| WQ.blockRet <| WQ.thenRet <| WQ.thenRet <| WQ.blockRet <| WQ.ret0 rfl ?_
      obtain rfl := Option.some.inj HF
      exact ⟨_, rfl, h414, S417, rfl, ob420, ob422⟩
     refine WC.skip <| WC.to [0, 1, 6] _ rfl ?_
     exact J451 ⟨h414, x421, HF, rfl, S417, le416, ob419, ob420, ob422⟩
    intro J424
    refine WC.regionI <| WI.val (fun _ => trivial) rfl rfl rfl (fun c h => by cases h) (ov_move rfl) <| WI.val (fun _ => trivial) rfl rfl rfl (fun c h => by cases h) (ov_loadN (cs := [vi r368.1.kind, .string r368.1.text, vi x29]) rfl t_agg_38 t_size_38 (OB.cells ob398 0 rfl)) <| WI.val (fun _ => trivial) rfl rfl rfl (fun c h => by cases h) (ov_move rfl) ?_
    have hJ400 := (hYst _ _ _ _ _ _ (hYst _ _ _ _ _ _ (hYst _ _ _ _ _ _ hJ380 s384 ym_nil) s391 (ym_cons (ny_new hMY g388) ob385 ym_nil)) s397 (ym_cons (ny_new hMY g388) ob392 ym_nil))
    have ob410 := (ob394.step1 s397 ne386)
    have ob411 := (ob395.step1 s397 ne387)
    obtain ⟨r401, hr402, HF⟩ := bind_some HF
    refine WI.yield (vs := [.agg #[vi r368.1.kind, .string r368.1.text, vi x29], vi r368.2]) rfl rfl rfl rfl (hY _ _ _ _ _ _ _ hr402 hJ400 S399.size S399.sub (rp_Tok.2 rfl)) ?_
    rintro _ w403 ⟨rfl, h404, M405, hJ406, s407, hM408, hOB409⟩
    have S412 := S399.trans s407 (fun i hi => (hM408 i hi).imp (fun q => List.mem_append_right _ q) id)
    refine WI.val (fun _ => trivial) rfl rfl rfl (fun c h => by cases h) (ov_not rfl) <| WI.val (fun _ => trivial) rfl rfl rfl (fun c h => by cases h) (ov_move rfl) <| WI.split 75 (b := !r401.1) rfl (fun hb413 => ?_) (fun hb413 => ?_)
    ·replace HF := bif_t hb413 HF
     refine WI.pass (fun _ => trivial) rfl rfl rfl <| WI.pass (fun _ => trivial) rfl rfl rfl <| WI.val (fun _ => trivial) rfl rfl rfl (fun c h => by cases h) (ov_pickT rfl rfl) <| WI.nil ?_
     have ob425 := (ob410.step s407 (hOB409 _ _ _ ob410 ne12))
     have ob426 := (ob411.step s407 (hOB409 _ _ _ ob411 ne13))
     refine WC.to [0, 1, 6, 78] _ rfl ?_
     exact J424 ⟨h404, true, r401.2, HF, rfl, S412, s407.le, ob425, ob426, hJ406⟩
    replace HF := bif_f hb413 HF
    refine WI.val (fun _ => trivial) rfl rfl rfl (fun c h => by cases h) (ov_move rfl) <| WI.val (fun _ => trivial) rfl rfl rfl (fun c h => by cases h) (ov_eql rfl rfl) <| WI.val (fun _ => trivial) rfl rfl rfl (fun c h => by cases h) (ov_pickF rfl rfl) <| WI.nil ?_
    have ob427 := (ob410.step s407 (hOB409 _ _ _ ob410 ne12))
    have ob428 := (ob411.step s407 (hOB409 _ _ _ ob411 ne13))
    refine WC.to [0, 1, 6, 78] _ rfl ?_
    exact J424 ⟨h404, (r368.2 : Int) == 0, r401.2, HF, rfl, S412, s407.le, ob427, ob428, hJ406⟩
   refine WC.skip <| WQ.blockN <| WQ.seqN <| WC.seq <| WC.region <| Wm rfl rfl ?_
   have ob452 := (ob275.step0 s273)
   obtain ⟨r453, hr454, HF⟩ := bind_some HF
   refine Wc rfl (oc_bound (us := [pt b5 0]) (vs := []) (caps := []) rfl rfl t_ent_67) (ok_lexis_scanner_sign _ hr454 S277.sub ob452) ?_
   have ob461 := (ob274.step0 s273)
   have hJ462 := (hYst _ _ _ _ _ _ hJ276 s273 ym_nil)
   rintro _ w456 ⟨h457, s458, _, _, rfl, ⟨cs459, rfl, r460⟩, rfl⟩
   have S463 := S277.trans0 s458
   refine Wm rfl rfl <| Wv rfl (ov_extract rfl rfl) <| Wv rfl (ov_extract rfl rfl) ?_
   have ob464 := (ob461.step0 s458)
   have ob465 := (ob452.step0 s458)
   have hJ466 := (hYst _ _ _ _ _ _ hJ462 s458 ym_nil)
   refine WL.alloc (zs := [vi 0, .string b'110, vi 0]) rfl rfl t_zero_38 rfl S463.sub (fun w467 b468 hb469 s470 ob471 => ?_)
   have ne472 : b3 ≠ b468 := ob464.ne_new hb469
   have ne473 : b5 ≠ b468 := ob465.ne_new hb469
   have g474 : w0.heap.size ≤ b468 := by rw [hb469]; exact S463.size
   have S475 := S463.trans0 s470
   obtain rfl := rp_Tok.1 (Rp.mono (s470.le) r460)
   refine WL.store (vs := [vi r453.1.kind, .string r453.1.text, vi r453.1.pos]) rfl rfl rfl rfl t_size_38 (one_cons rfl (one_cons rfl (one_cons rfl one_nil))) ob471 S475.sub (by simp) (ds := [vi r453.1.kind, .string r453.1.text, vi r453.1.pos]) rfl (fun w476 s477 ob478 => ?_)
   have S479 := S475.trans1 s477 (.inr g474)
   refine Wa rfl rfl <| WL.nil <| WQ.seqN <| WC.seq <| WC.region ?_
   have ob480 := ((ob464.step0 s470).step1 s477 ne472)
   refine Wv rfl (ov_load1 rfl t_agg_79 (OB.cell ob480 (j := 0) rfl)) <| Wv rfl (ov_nilCheck rfl) <| Wv rfl (ov_fieldAddr rfl t_field_81_1) ?_
   have ob481 := ((ob465.step0 s470).step1 s477 ne473)
   refine Wv rfl (ov_load1 rfl t_agg_3 (OB.cell ob481 (j := 1) rfl)) <| Wv rfl (ov_fieldAddr rfl t_field_38_2) <| WL.store (vs := [vi x29]) rfl rfl rfl rfl t_size_3 (one_cons rfl one_nil) ob478 S479.sub (by simp) (ds := [vi r453.1.kind, .string r453.1.text, vi x29]) rfl (fun w482 s483 ob484 => ?_)
   have S485 := S479.trans1 s483 (.inr g474)
   refine WL.nil <| WQ.seqN <| WC.join (fun E w516 => ∃ (h515 : Hp) (x521 : YS), lexis_scanner_tokens_1_j12 j33 (tie_lexis_scanner_tokens_1 j33) x7 x29 r453 x521 = some r ∧ E = [(0, .func (.yield l1) #[] #[]), (1, pt b3 0), (6, vi r453.2)] ∧ Stp ([b5] ++ MY) w0 h0 w516 h515 ∧ Hle h457 h515 ∧ OB w516 h515 b3 T4 [pt b5 0] ∧ OB w516 h515 b5 T6 [.string x7, vi x29] ∧ J x521 w516 h515) ?_ ?_
   ·rintro E w516 ⟨h515, x521, HF, rfl, S518, le517, ob519, ob520, ob522⟩
    refine WC.region <| Wv rfl (ov_load1 rfl t_agg_79 (OB.cell ob519 (j := 0) rfl)) <| Wv rfl (ov_nilCheck rfl) <| Wv rfl (ov_fieldAddr rfl t_field_81_1) <| Wv rfl (ov_load1 rfl t_agg_3 (OB.cell ob520 (j := 1) rfl)) <| Wm rfl rfl <| Wv rfl (ov_add rfl rfl) <| Wv rfl (ov_nilCheck rfl) <| Wv rfl (ov_fieldAddr rfl t_field_81_1) <| WL.store (vs := [vi (IntKind.i64.wrap (x29 + r453.2))]) rfl rfl rfl rfl t_size_3 (one_cons rfl one_nil) ob520 S518.sub (by simp) (ds := [.string x7, vi (IntKind.i64.wrap (x29 + r453.2))]) rfl (fun w523 s524 ob525 => ?_)
    have S526 := S518.trans1 s524 (.inl (by simp))
    refine WL.nil <| WQ.blockN <| WQ.seqN <| WC.region ?_
    have ob527 := (ob519.step1 s524 ne11)
    refine Wv rfl (ov_load1 rfl t_agg_79 (OB.cell ob527 (j := 0) rfl)) ?_
    obtain ⟨r528, hr529, HF⟩ := bind_some HF
    refine Wc rfl (oc_func (vs := [pt b5 0]) rfl t_ent_66) (ok_lexis_scanner_skip _ hr529 S526.sub ob525) ?_
    have hJ534 := (hYst _ _ _ _ _ _ ob522 s524 (ym_cons ne13 ob520 ym_nil))
    rintro v530 w531 ⟨h532, s533, rfl, ob535⟩
    have S536 := S526.trans s533 (in_cons (.inl (by simp)) in_nil)
    refine WL.nil ?_
    have ob550 := (ob527.step1 s533 ne11)
    have hJ551 := (hYst _ _ _ _ _ _ hJ534 s533 (ym_cons ne13 ob525 ym_nil))
    refine WQ.loopN <| WP.to [0, 1] [(0, .func (.yield l1) #[] #[]), (1, pt b3 0)] rfl ?_
    exact IHL34 j33 (Nat.le_refl _) _ _ ⟨h532, r528, x521, HF, rfl, S536, (le26).trans ((le49).trans ((s56.le).trans ((s66.le).trans ((s79.le).trans ((s176.le).trans ((s273.le).trans ((s458.le).trans ((s470.le).trans ((s477.le).trans ((s483.le).trans ((le517).trans ((s524.le).trans s533.le)))))))))))), ob550, ob535, hJ551⟩
   intro J537
   refine WC.join (fun E w501 => ∃ (h500 : Hp) (x504 : Bool) (x507 : YS), lexis_scanner_tokens_1_j11 j33 (tie_lexis_scanner_tokens_1 j33) x7 x29 r453 x504 x507 = some r ∧ E = [(0, .func (.yield l1) #[] #[]), (1, pt b3 0), (6, vi r453.2), (78, .bool x504)] ∧ Stp ([b5] ++ MY) w0 h0 w501 h500 ∧ Hle h457 h500 ∧ OB w501 h500 b3 T4 [pt b5 0] ∧ OB w501 h500 b5 T6 [.string x7, vi x29] ∧ J x507 w501 h500) ?_ ?_
   ·rintro E w501 ⟨h500, x504, x507, HF, rfl, S503, le502, ob505, ob506, ob508⟩
    refine WC.cF HF rfl (fun HF => ?_) (fun HF => ?_)
    ·refine WC.ret <| WQ.thenRet <| WQ.blockRet <| WQ.thenRet <| WQ.thenRet <| WQ.blockRet <| WQ.ret0 rfl ?_
     obtain rfl := Option.some.inj HF
     exact ⟨_, rfl, h500, S503, rfl, ob506, ob508⟩
    refine WC.skip <| WC.to [0, 1, 6] _ rfl ?_
    exact J537 ⟨h500, x507, HF, rfl, S503, le502, ob505, ob506, ob508⟩
   intro J510
   refine WC.regionI <| WI.val (fun _ => trivial) rfl rfl rfl (fun c h => by cases h) (ov_move rfl) <| WI.val (fun _ => trivial) rfl rfl rfl (fun c h => by cases h) (ov_loadN (cs := [vi r453.1.kind, .string r453.1.text, vi x29]) rfl t_agg_38 t_size_38 (OB.cells ob484 0 rfl)) <| WI.val (fun _ => trivial) rfl rfl rfl (fun c h => by cases h) (ov_move rfl) ?_
   have hJ486 := (hYst _ _ _ _ _ _ (hYst _ _ _ _ _ _ (hYst _ _ _ _ _ _ hJ466 s470 ym_nil) s477 (ym_cons (ny_new hMY g474) ob471 ym_nil)) s483 (ym_cons (ny_new hMY g474) ob478 ym_nil))
   have ob496 := (ob480.step1 s483 ne472)
   have ob497 := (ob481.step1 s483 ne473)
   obtain ⟨r487, hr488, HF⟩ := bind_some HF
   refine WI.yield (vs := [.agg #[vi r453.1.kind, .string r453.1.text, vi x29], vi r453.2]) rfl rfl rfl rfl (hY _ _ _ _ _ _ _ hr488 hJ486 S485.size S485.sub (rp_Tok.2 rfl)) ?_
   rintro _ w489 ⟨rfl, h490, M491, hJ492, s493, hM494, hOB495⟩
   have S498 := S485.trans s493 (fun i hi => (hM494 i hi).imp (fun q => List.mem_append_right _ q) id)
   refine WI.val (fun _ => trivial) rfl rfl rfl (fun c h => by cases h) (ov_not rfl) <| WI.val (fun _ => trivial) rfl rfl rfl (fun c h => by cases h) (ov_move rfl) <| WI.split 75 (b := !r487.1) rfl (fun hb499 => ?_) (fun hb499 => ?_)
   ·replace HF := bif_t hb499 HF
    refine WI.pass (fun _ => trivial) rfl rfl rfl <| WI.pass (fun _ => trivial) rfl rfl rfl <| WI.val (fun _ => trivial) rfl rfl rfl (fun c h => by cases h) (ov_pickT rfl rfl) <| WI.nil ?_
    have ob511 := (ob496.step s493 (hOB495 _ _ _ ob496 ne12))
    have ob512 := (ob497.step s493 (hOB495 _ _ _ ob497 ne13))
    refine WC.to [0, 1, 6, 78] _ rfl ?_
    exact J510 ⟨h490, true, r487.2, HF, rfl, S498, s493.le, ob511, ob512, hJ492⟩
   replace HF := bif_f hb499 HF
   refine WI.val (fun _ => trivial) rfl rfl rfl (fun c h => by cases h) (ov_move rfl) <| WI.val (fun _ => trivial) rfl rfl rfl (fun c h => by cases h) (ov_eql rfl rfl) <| WI.val (fun _ => trivial) rfl rfl rfl (fun c h => by cases h) (ov_pickF rfl rfl) <| WI.nil ?_
   have ob513 := (ob496.step s493 (hOB495 _ _ _ ob496 ne12))
   have ob514 := (ob497.step s493 (hOB495 _ _ _ ob497 ne13))
   refine WC.to [0, 1, 6, 78] _ rfl ?_
   exact J510 ⟨h490, (r453.2 : Int) == 0, r487.2, HF, rfl, S498, s493.le, ob513, ob514, hJ492⟩
  intro J538
  refine WC.seq <| WC.drawn (m := 9) [(0, .func (.yield l1) #[] #[]), (1, pt b3 0)] [0, 1] rfl (fun i v w h => match i with | 0 => v = pt b5 0 | 1 => v = pt b5 0 | 2 => v = pt b5 1 | 3 => v = vi x29 | 4 => v = pt b5 0 | 5 => v = pt b5 0 | 6 => v = pt b5 0 | 7 => v = .string x7 | 8 => v = vi (x7.size : Int) | _ => True) t_mixed S27.sub rfl rfl rfl rfl rfl ?_ ?_ ?_
  ·intro i v w h w2 h2 hΦ hst
   match i, hΦ with
   | 0, hΦ | 1, hΦ | 2, hΦ | 3, hΦ | 4, hΦ | 5, hΦ | 6, hΦ | 7, hΦ | 8, hΦ => exact hΦ
   | i + 9, _ => exact trivial
  ·refine ⟨?_, ?_, ?_, ?_, ?_, ?_, ?_, ?_, ?_, trivial⟩
   ·intro a w36 h37 s38 hat hF
    have ob39 := (ob28.step0 s38)
    exact front_val hat rfl (ov_load1 rfl t_agg_79 (OB.cell ob39 (j := 0) rfl)) s38.sub (by exact rfl)
   ·intro a w36 h37 s38 hat hF
    exact front_val (At.cons hat (hF 0 9 rfl rfl)) rfl (ov_nilCheck rfl) s38.sub (by exact rfl)
   ·intro a w36 h37 s38 hat hF
    exact front_val (At.cons hat (hF 1 10 rfl rfl)) rfl (ov_fieldAddr rfl t_field_81_1) s38.sub (by exact rfl)
   ·intro a w36 h37 s38 hat hF
    have ob40 := (ob30.step0 s38)
    exact front_val (At.cons hat (hF 2 11 rfl rfl)) rfl (ov_load1 rfl t_agg_3 (OB.cell ob40 (j := 1) rfl)) s38.sub (by exact rfl)
   ·intro a w36 h37 s38 hat hF
    have ob41 := (ob28.step0 s38)
    exact front_val hat rfl (ov_load1 rfl t_agg_79 (OB.cell ob41 (j := 0) rfl)) s38.sub (by exact rfl)
   ·intro a w36 h37 s38 hat hF
    exact front_val (At.cons hat (hF 4 13 rfl rfl)) rfl (ov_nilCheck rfl) s38.sub (by exact rfl)
   ·intro a w36 h37 s38 hat hF
    exact front_val (At.cons hat (hF 5 14 rfl rfl)) rfl (ov_fieldAddr rfl t_field_81_0) s38.sub (by exact rfl)
   ·intro a w36 h37 s38 hat hF
    have ob42 := (ob30.step0 s38)
    exact front_val (At.cons hat (hF 6 15 rfl rfl)) rfl (ov_load1 rfl t_agg_9 (OB.cell ob42 (j := 0) rfl)) s38.sub (by exact rfl)
   intro a w36 h37 s38 hat hF
   exact front_val (At.cons hat (hF 7 16 rfl rfl)) rfl (ov_lenS rfl t_string_9) s38.sub (by exact rfl)
  intro a w36 h37 s38 hat hF
  obtain hv0 := hF 0 9 (by decide) rfl
  obtain hv1 := hF 1 10 (by decide) rfl
  obtain hv2 := hF 2 11 (by decide) rfl
  obtain hv3 := hF 3 12 (by decide) rfl
  obtain hv4 := hF 4 13 (by decide) rfl
  obtain hv5 := hF 5 14 (by decide) rfl
  obtain hv6 := hF 6 15 (by decide) rfl
  obtain hv7 := hF 7 16 (by decide) rfl
  obtain hv8 := hF 8 17 (by decide) rfl
  refine WL.at_ [(17, vi (x7.size : Int)), (16, .string x7), (15, pt b5 0), (14, pt b5 0), (13, pt b5 0), (12, vi x29), (11, pt b5 1), (10, pt b5 0), (9, pt b5 0), (0, .func (.yield l1) #[] #[]), (1, pt b3 0)] (At.cons (At.cons (At.cons (At.cons (At.cons (At.cons (At.cons (At.cons (At.cons hat hv0) hv1) hv2) hv3) hv4) hv5) hv6) hv7) hv8) ?_
  have S43 := S27.trans0 s38
  refine Wv rfl (ov_lss rfl rfl) <| WL.nil <| WQ.seqN <| WC.cF HF rfl (fun HF => ?_) (fun HF => ?_)
  ·refine WC.skip ?_
   have ob539 := (ob28.step0 s38)
   have ob540 := (ob30.step0 s38)
   have hJ541 := (hYst _ _ _ _ _ _ ob32 s38 ym_nil)
   refine WC.to [0, 1] _ rfl ?_
   exact J538 ⟨h37, HF, rfl, S43, s38.le, ob539, ob540, hJ541⟩
  refine WC.exit <| WQ.thenExit <| WQ.thenExit <| WQ.blockHit ?_
  have ob45 := (ob30.step0 s38)
  have hJ46 := (hYst _ _ _ _ _ _ ob32 s38 ym_nil)
  refine WQ.end0 rfl ?_
  obtain rfl := Option.some.inj HF
  exact ⟨_, rfl, h37, S43, rfl, ob45, hJ46⟩
 have ob552 := (ob10.step1 s21 ne11)
 have hJ553 := (hYst _ _ _ _ _ _ hJ0 s21 (ym_cons ne13 ob9 ym_nil))
 exact ⟨h20, r16, y2, HF, rfl, S23, Hle.refl _, ob552, ob22, hJ553⟩
theorem all_lexis_scanner_tokens_1 : ∀ k j, j ≤ k → C_lexis_scanner_tokens_1 (tie_lexis_scanner_tokens_1 j).lexis_scanner_tokens_1 := by
  intro k
  induction k with
  | zero =>
    intro j hj
    obtain rfl : j = 0 := by omega
    exact (fun _ _ _ _ => by intro h; cases h)
  | succ k ih =>
    intro j hj
    by_cases h : j ≤ k
    · exact ih j h
    · obtain rfl : j = k + 1 := by omega
      exact s_lexis_scanner_tokens_1 k ih
theorem ok_lexis_scanner_tokens_1 (k : Nat) : C_lexis_scanner_tokens_1 (F_lexis_scanner_tokens_1 k) := (all_lexis_scanner_tokens_1 k k (Nat.le_refl _))

def C_lexis_Tokens (φ : ByteArray → Option (List Tok × Int × Int)) : Prop := ∀ ⦃x1 : ByteArray⦄ ⦃r : List Tok × Int × Int⦄, φ x1 = some r → ∀ ⦃w0 : World⦄ ⦃h0 : Hp⦄, Sub h0 w0 →
  Calls Tryz.prog 18 #[.string x1] w0 fun e w1 => ∃ v, e = .returned v ∧ ∃ h1, Stp [] w0 h0 w1 h1 ∧ (∃ u0 u1 u2 : Value, v = .tuple #[u0, u1, u2] ∧ (RS h1 u0 r.1) ∧ (u1 = .int .i64 r.2.1) ∧ (u2 = .int .i64 r.2.2))
def rfParts : Code → Array Tmp × Code × Code
  | .seq _ (.seq _ (.seq _ (.seq _ (.seq (.seq _ (.block _ (.rangeFunc _ p a b))) _)))) => (p, a, b)
  | _ => (#[], .skip, .skip)
def rfOf (f : Func) : Array Tmp × Code × Code := match f.body with
  | some c => rfParts c
  | none => (#[], .skip, .skip)
noncomputable def tokLoop (fn : FuncId) (tmps : Array Value) (D : Nat) (st : LoopState) (pe : Option Code) : Loop := { state := st, pending := pe, fn, tmps, params := (rfOf Tryz.f18).1, assign := (rfOf Tryz.f18).2.1, body := (rfOf Tryz.f18).2.2, defers := D }
/-- What lies in memory between two rounds. -/
def TokJ (l D b2 b3 b4 b5 B : Nat) (Lr Ld : Loop) (s : YS) (w : World) (h : Hp) : Prop :=
  h.base ≤ D ∧ ∃ vo, w.heap[l]? = some (.loop (match s.2 with | none => Lr | some _ => Ld)) ∧ w.heap[D]? = some (.deferred (some [])) ∧ OB w h b5 34 [vo] ∧ RS h vo s.1 ∧ Own w h B 38 3 vo s.1.length ∧
    OB w h b2 34 [.slice none 0 0] ∧ OB w h b3 3 [.int .i64 (s.2.getD 0)] ∧ OB w h b4 23 [.int .i64 (if s.2.isSome then 4 else 0)]
theorem TokJ.step {l D b2 b3 b4 b5 B : Nat} {Lr Ld : Loop} {s : YS} {w w1 : World} {h h1 : Hp} {M : List Nat} (j : TokJ l D b2 b3 b4 b5 B Lr Ld s w h) (st : Stp M w h w1 h1) (ym : YM [l, b2, b3, b4, b5] w h M) : TokJ l D b2 b3 b4 b5 B Lr Ld s w1 h1 := by
  obtain ⟨hbD, vo, jl, jD, o5, rs, own, o2, o3, o4⟩ := j
  have nin : ∀ b ∈ [l, b2, b3, b4, b5], b ∉ M := fun b hb hm => (ym b hm).1 hb
  have hDM : D ∉ M := fun hm => by
    obtain ⟨_, T, cs, ob⟩ := ym D hm
    have q := ob.heap; rw [jD] at q; cases q
  refine ⟨by rw [st.eqb]; exact hbD, vo, ?_, ?_, o5.step st (nin _ (by simp)), rs.mono st.le, own.step st (fun b hb => ?_), o2.step st (nin _ (by simp)), o3.step st (nin _ (by simp)), o4.step st (nin _ (by simp))⟩
  · rw [st.block l (Array.getElem?_eq_some_iff.1 jl).1 (nin _ (by simp))]; exact jl
  · rw [st.block D (Array.getElem?_eq_some_iff.1 jD).1 hDM]; exact jD
  · obtain ⟨_, T, cs, ob⟩ := ym b hb
    exact own.ne_obS1 rs ob
theorem tok_round {fn : FuncId} {a : Act} {E : Env} {l D b2 b3 b4 b5 B : Nat} (hE : At 33 E a) (hE2 : lk E 2 = some (.pointer (some ⟨b2, 0, none⟩))) (hE3 : lk E 3 = some (.pointer (some ⟨b3, 0, none⟩))) (hE4 : lk E 4 = some (.pointer (some ⟨b4, 0, none⟩))) (hE5 : lk E 5 = some (.pointer (some ⟨b5, 0, none⟩)))
    (n23 : b2 ≠ b3) (n24 : b2 ≠ b4) (n34 : b3 ≠ b4) (n25 : b2 ≠ b5) (n35 : b3 ≠ b5) (n45 : b4 ≠ b5) (hlD : D + 1 = l) (hDB : D ≤ B) :
    ∀ (s : YS) (t : Tok) (n : Int) (r : Bool × YS) (w : World) (h : Hp) (cs : List Value), yfTok s t n = some r → TokJ l D b2 b3 b4 b5 B (tokLoop fn a.tmps D .ready none) (tokLoop fn a.tmps D .done (some .ret)) s w h → B ≤ w.heap.size → Sub h w → Rp.R h t cs →
      YieldAt Fence.wide 0 Tryz.prog l #[.agg cs.toArray, .int .i64 n] w fun e w1 => ∃ b, e = .returned (.bool b) ∧ b = r.1 ∧ ∃ h1 M, TokJ l D b2 b3 b4 b5 B (tokLoop fn a.tmps D .ready none) (tokLoop fn a.tmps D .done (some .ret)) r.2 w1 h1 ∧ Stp M w h w1 h1 ∧ (∀ i ∈ M, i ∈ [l, b2, b3, b4, b5] ∨ B ≤ i) ∧ ∀ b T cs, OB w h b T cs → b ∉ [l, b2, b3, b4, b5] → b ∉ M := by
  have c34 : tSize Tryz.prog 34 = some 1 := by kernel_rfl
  have z38 : tZero Tryz.prog 38 = some (.agg #[.int .i64 0, .string ⟨#[]⟩, .int .i64 0]) := by kernel_rfl
  rintro ⟨so, sa⟩ t n r w h cs hr ⟨hbD, vo, jl, jD, o5, rs, own, o2, o3, o4⟩ hB hs hR
  have hbB : h.base ≤ B := Nat.le_trans hbD hDB
  have hbl : h.base ≤ l := by omega
  replace hlD : l ≠ D := by omega
  cases sa with
  | some q => simp [yfTok] at hr
  | none =>
  obtain rfl := rp_Tok.1 hR
  replace jl : w.heap[l]? = some (.loop (tokLoop fn a.tmps D .ready none)) := jl
  replace o3 : OB w h b3 3 [.int .i64 0] := o3
  replace o4 : OB w h b4 23 [.int .i64 0] := o4
  replace rs : RS h vo so := rs
  replace own : Own w h B 38 3 vo so.length := own
  have hp : (rfOf Tryz.f18).1 = #[17, 18] := by kernel_rfl
  have hlw : l < w.heap.size := (Array.getElem?_eq_some_iff.1 jl).1
  have lne : ∀ {b T : Nat} {cs : List Value}, OB w h b T cs → b ≠ l := fun ob q => by subst q; have q := ob.heap; rw [jl] at q; cases q
  refine yieldAt_of (nn := 33) (E0 := (18, .int .i64 n) :: (17, .agg #[.int .i64 t.kind, .string t.text, .int .i64 t.pos]) :: E) jl rfl ?_ ?_
  · have hat2 := (hE.put (d := 17) (by decide) (.agg #[.int .i64 t.kind, .string t.text, .int .i64 t.pos])).put (d := 18) (by decide) (.int .i64 n)
    have e : ((tokLoop fn a.tmps D .ready none).params.zip #[Value.agg #[.int .i64 t.kind, .string t.text, .int .i64 t.pos], .int .i64 n]).foldl (fun tmps (t, a) => tmps.setIfInBounds t a) (tokLoop fn a.tmps D .ready none).tmps = (((a.put (some 17) (.agg #[.int .i64 t.kind, .string t.text, .int .i64 t.pos])).put (some 18) (.int .i64 n)).tmps) := by
      simp [tokLoop, hp, Act.put]
    rw [e]
    exact ⟨rfl, hat2.size, hat2.slot⟩
  refine WZ.seq <| WZ.region ?_
  refine WI.val (fun _ => trivial) rfl rfl rfl (fun c h => by cases h) (ov_allocN z38 rfl) ?_
  have s1 := alloc_stp hs (.cells #[.int .i64 0, .string ⟨#[]⟩, .int .i64 0] 38)
  have ob7 := alloc_ob hs [.int .i64 0, .string ⟨#[]⟩, .int .i64 0] 38
  refine WI.unit (fun _ => trivial) rfl rfl (fun c h => by cases h) (ou_store (vs := [.int .i64 t.kind, .string t.text, .int .i64 t.pos]) (ds := [.int .i64 t.kind, .string t.text, .int .i64 t.pos]) rfl rfl rfl t_size_38 (one_cons rfl (one_cons rfl (one_cons rfl one_nil))) ob7 (by simp) rfl) ?_
  have s2 := setRow_stp s1.sub ob7 [.int .i64 t.kind, .string t.text, .int .i64 t.pos]
  replace ob7 := setRow_ob ob7 [.int .i64 t.kind, .string t.text, .int .i64 t.pos]
  refine WI.nil <| WQ.seqD <| WZ.region <| WI.val (fun _ => trivial) rfl rfl rfl (fun c h => by cases h) (ov_assign rfl) <| WI.nil ?_
  have jl2 : ((w.alloc (.cells #[.int .i64 0, .string ⟨#[]⟩, .int .i64 0] 38)).setRow w.heap.size #[.int .i64 t.kind, .string t.text, .int .i64 t.pos]).heap[l]? = some (.loop (tokLoop fn a.tmps D .ready none)) := by
    rw [s2.block l (by have := s1.size; omega) (by simp; omega), s1.block l hlw (by simp)]; exact jl
  refine WQ.begin jl2 rfl ?_
  have s3 := putObj_stp (o' := .loop { tokLoop fn a.tmps D .ready none with state := .busy }) s2.sub jl2 rfl hbl
  generalize hw3 : ((w.alloc (.cells #[.int .i64 0, .string ⟨#[]⟩, .int .i64 0] 38)).setRow w.heap.size #[.int .i64 t.kind, .string t.text, .int .i64 t.pos]) = w2 at s2 s3 jl2 ob7
  have jl3 : (w2.putObj l (.loop { tokLoop fn a.tmps D .ready none with state := .busy })).heap[l]? = some (.loop { tokLoop fn a.tmps D .ready none with state := .busy }) := World.putObj_heap_same (Array.getElem?_eq_some_iff.1 jl2).1
  generalize hw4 : w2.putObj l (.loop { tokLoop fn a.tmps D .ready none with state := .busy }) = w3 at s3 jl3
  have S12 : Stp [] w h w2 h := s1.trans1 s2 (.inr (Nat.le_refl _))
  have S3 : Stp [l] w h w3 h := ((Stp.refl hs [l]).trans0 S12).trans1 s3 (.inl (by simp))
  have n7 : ∀ {b T : Nat} {cs : List Value}, OB w h b T cs → b ≠ w.heap.size := fun ob => by have := ob.lt; omega
  have l7 : w.heap.size ≠ l := by omega
  replace ob7 := ob7.step1 s3 l7
  have jD3 : w3.heap[D]? = some (.deferred (some [])) := (S3.block D (Array.getElem?_eq_some_iff.1 jD).1 (by simpa using hlD.symm)).trans jD
  refine WZ.block <| WZ.seq <| WZ.seq <| WZ.region <| WI.val (fun _ => trivial) rfl rfl rfl (fun c h => by cases h) (ov_move rfl) <| WI.val (fun _ => trivial) rfl rfl rfl (fun c h => by cases h) (ov_eql rfl rfl) <| WI.nil <| WQ.seqD ?_
  by_cases hn : n = 0
  · -- no token: it leaves
    subst hn
    simp [yfTok] at hr
    subst hr
    refine WZ.condT rfl <| WZ.seq <| WZ.drawn t_mixed s3.sub (fun w4 s4 => ?_)
    have q2 := (o2.step1 S3 (lne o2)).step0 s4
    have q3 := (o3.step1 S3 (lne o3)).step0 s4
    have q4 := (o4.step1 S3 (lne o4)).step0 s4
    have q7 := ob7.step0 s4
    have s5 := setRow_stp s4.sub q2 [.slice none 0 0]
    have p2 := setRow_ob q2 [.slice none 0 0]
    have s6 := setRow_stp s5.sub (q3.step1 s5 n23.symm) [.int .i64 t.pos]
    have p3 := setRow_ob (q3.step1 s5 n23.symm) [.int .i64 t.pos]
    have s7 := setRow_stp s6.sub ((q4.step1 s5 n24.symm).step1 s6 n34.symm) [.int .i64 4]
    have p4 := setRow_ob ((q4.step1 s5 n24.symm).step1 s6 n34.symm) [.int .i64 4]
    generalize hv5 : w4.setRow b2 #[.slice none 0 0] = w5 at s5 p2 s6 p3 s7 p4
    generalize hv6 : w5.setRow b3 #[.int .i64 t.pos] = w6 at s6 p3 s7 p4
    generalize hv7 : w6.setRow b4 #[.int .i64 4] = w7 at s7 p4
    have r2 := (p2.step1 s6 n23).step1 s7 n24
    have r3 := p3.step1 s7 n34
    have l2 := lne o2
    have l3 := lne o3
    have l4 := lne o4
    have l5 := lne o5
    have S7 : Stp [l, b2, b3, b4, b5] w h w7 h := (((((Stp.refl hs [l, b2, b3, b4, b5]).trans S3 (by simp)).trans0 s4).trans1 s5 (.inl (by simp))).trans1 s6 (.inl (by simp))).trans1 s7 (.inl (by simp))
    have jl7 : w7.heap[l]? = some (.loop { tokLoop fn a.tmps D .ready none with state := .busy }) := by
      have h3 : l < w3.heap.size := (Array.getElem?_eq_some_iff.1 jl3).1
      rw [s7.block l (by have := s4.size; have := s5.size; have := s6.size; omega) (by simpa using l4.symm), s6.block l (by have := s4.size; have := s5.size; omega) (by simpa using l3.symm), s5.block l (by have := s4.size; omega) (by simpa using l2.symm), s4.block l h3 (by simp)]
      exact jl3
    have s8 := putObj_stp (o' := .loop { tokLoop fn a.tmps D .ready none with state := .done, pending := some .ret }) s7.sub jl7 rfl hbl
    have fin : ∀ E, WQ 33 (roundPost Tryz.prog l fun e w1 => ∃ b, e = .returned (.bool b) ∧ b = false ∧ ∃ h1 M, TokJ l D b2 b3 b4 b5 B (tokLoop fn a.tmps D .ready none) (tokLoop fn a.tmps D .done (some .ret)) (so, some t.pos) w1 h1 ∧ Stp M w h w1 h1 ∧ (∀ i ∈ M, i ∈ [l, b2, b3, b4, b5] ∨ B ≤ i) ∧ ∀ b T cs, OB w h b T cs → b ∉ [l, b2, b3, b4, b5] → b ∉ M) .ret E w7 := fun E => by
      refine WQ.roundR (L := { tokLoop fn a.tmps D .ready none with state := .busy }) jl7 ⟨false, rfl, rfl, h, [l, b2, b3, b4, b5], ?_, S7.trans1 s8 (.inl (by simp)), fun i hi => .inl hi, fun b T cs _ hb => hb⟩
      have S8 := S7.trans1 s8 (.inl (by simp))
      have lD : l ≠ D := hlD
      refine ⟨hbD, vo, World.putObj_heap_same (Array.getElem?_eq_some_iff.1 jl7).1, ?_, ?_, rs, ?_, (r2.step1 s8 l2), (r3.step1 s8 l3), (p4.step1 s8 l4)⟩
      · have hDw : D < w3.heap.size := (Array.getElem?_eq_some_iff.1 jD3).1
        have d2 : D ≠ b2 := fun q => by subst q; have q := o2.heap; rw [jD] at q; cases q
        have d3 : D ≠ b3 := fun q => by subst q; have q := o3.heap; rw [jD] at q; cases q
        have d4 : D ≠ b4 := fun q => by subst q; have q := o4.heap; rw [jD] at q; cases q
        rw [s8.block D (by have := s4.size; have := s5.size; have := s6.size; have := s7.size; omega) (by simpa using hlD.symm), s7.block D (by have := s4.size; have := s5.size; have := s6.size; omega) (by simpa using d4), s6.block D (by have := s4.size; have := s5.size; omega) (by simpa using d3), s5.block D (by have := s4.size; omega) (by simpa using d2), s4.block D hDw (by simp)]
        exact jD3
      · exact ((((((o5.step1 S3 l5).step0 s4).step1 s5 n25.symm).step1 s6 n35.symm).step1 s7 n45.symm).step1 s8 l5)
      · refine own.step S8 (fun b hb => ?_)
        simp only [List.mem_cons, List.not_mem_nil, or_false] at hb
        rcases hb with rfl | rfl | rfl | rfl | rfl
        · intro q
          rcases own with ⟨rfl, _⟩ | ⟨g, cap, cur, rfl, hbg, hg, _⟩
          · simp [Value.ownBlock] at q
          · simp [Value.ownBlock] at q; subst q; rw [jl] at hg; cases hg
        · exact own.ne_obS1 rs o2
        · exact own.ne_obS1 rs o3
        · exact own.ne_obS1 rs o4
        · exact own.ne_obS1 rs o5
    have load : ∀ {E : Env} {dd : Option Tmp} {ty : TypeId} {ps : String} {af : Array Edge} {g : Option (Nat × Bool)} {x : Operand} {wx : World}, ev E x = some (.pointer (some ⟨w.heap.size, 2, none⟩)) → OB wx h w.heap.size 38 [.int .i64 t.kind, .string t.text, .int .i64 t.pos] → OV Tryz.prog ⟨dd, .load 3 x, ty, ps, af, g⟩ E wx (.int .i64 t.pos) wx := fun hx ob => ov_load1 hx t_agg_3 (OB.cell ob (j := 2) rfl)
    have f38 : fOff Tryz.prog 38 2 = some 2 := by kernel_rfl
    have st2 : ∀ {E : Env} {dd : Option Tmp} {ty : TypeId} {ps : String} {af : Array Edge} {g : Option (Nat × Bool)} {x y : Operand}, ev E x = some (.pointer (some ⟨b2, 0, none⟩)) → ev E y = some (.slice none 0 0) → OU Tryz.prog ⟨dd, .store 34 x y, ty, ps, af, g⟩ E w4 w5 := fun hx hy => by
      rw [← hv5]; exact ou_store (vs := [.slice none 0 0]) (ds := [.slice none 0 0]) hx hy rfl c34 (one_cons rfl one_nil) q2 (by simp) rfl
    have st3 : ∀ {E : Env} {dd : Option Tmp} {ty : TypeId} {ps : String} {af : Array Edge} {g : Option (Nat × Bool)} {x y : Operand}, ev E x = some (.pointer (some ⟨b3, 0, none⟩)) → ev E y = some (.int .i64 t.pos) → OU Tryz.prog ⟨dd, .store 3 x y, ty, ps, af, g⟩ E w5 w6 := fun hx hy => by
      rw [← hv6]; exact ou_store (vs := [.int .i64 t.pos]) (ds := [.int .i64 t.pos]) hx hy rfl t_size_3 (one_cons rfl one_nil) (q3.step1 s5 n23.symm) (by simp) rfl
    have st4 : ∀ {E : Env} {dd : Option Tmp} {ty : TypeId} {ps : String} {af : Array Edge} {g : Option (Nat × Bool)} {x y : Operand}, ev E x = some (.pointer (some ⟨b4, 0, none⟩)) → ev E y = some (.int .i64 4) → OU Tryz.prog ⟨dd, .store 23 x y, ty, ps, af, g⟩ E w6 w7 := fun hx hy => by
      rw [← hv7]; exact ou_store (vs := [.int .i64 4]) (ds := [.int .i64 4]) hx hy rfl t_size_23 (one_cons rfl one_nil) ((q4.step1 s5 n24.symm).step1 s6 n34.symm) (by simp) rfl
    have F : ∀ f : FuncId, (Fence.wide.inRound l).fn f := fun _ => trivial
    refine WB.two (i := 0) (j := 2) (by kernel_rfl) rfl rfl ?_ ?_
    · refine WI.val F rfl rfl rfl (fun c h => by cases h) (ov_fieldAddr rfl f38) <| WI.nil <| WQ.anyB ?_
      refine WB.two (i := 1) (j := 2) (by kernel_rfl) rfl rfl ?_ ?_
      · refine WI.val F rfl rfl rfl (fun c h => by cases h) (load rfl q7) <| WI.nil <| WQ.anyB ?_
        refine WB.one (i := 2) (by kernel_rfl) rfl ?_
        refine WI.unit F rfl rfl (fun c h => by cases h) (st2 hE2 rfl) <| WI.nil <| WQ.anyB ?_
        refine WB.one (i := 3) (by kernel_rfl) rfl ?_
        refine WI.unit F rfl rfl (fun c h => by cases h) (st3 hE3 rfl) <| WI.nil <| WQ.anyB ?_
        refine WB.one (i := 4) (by kernel_rfl) rfl ?_
        refine WI.unit F rfl rfl (fun c h => by cases h) (st4 hE4 rfl) <| WI.nil <| WQ.anyB ?_
        exact WB.fin (by kernel_rfl) <| WQ.seqD <| WZ.ret <| WQ.thenRetD <| WQ.blockRetD <| fin _
      · refine WI.unit F rfl rfl (fun c h => by cases h) (st2 hE2 rfl) <| WI.nil <| WQ.anyB ?_
        refine WB.one (i := 1) (by kernel_rfl) rfl ?_
        refine WI.val F rfl rfl rfl (fun c h => by cases h) (load rfl (q7.step1 s5 (n7 o2).symm)) <| WI.nil <| WQ.anyB ?_
        refine WB.one (i := 3) (by kernel_rfl) rfl ?_
        refine WI.unit F rfl rfl (fun c h => by cases h) (st3 hE3 rfl) <| WI.nil <| WQ.anyB ?_
        refine WB.one (i := 4) (by kernel_rfl) rfl ?_
        refine WI.unit F rfl rfl (fun c h => by cases h) (st4 hE4 rfl) <| WI.nil <| WQ.anyB ?_
        exact WB.fin (by kernel_rfl) <| WQ.seqD <| WZ.ret <| WQ.thenRetD <| WQ.blockRetD <| fin _
    · refine WI.unit F rfl rfl (fun c h => by cases h) (st2 hE2 rfl) <| WI.nil <| WQ.anyB ?_
      refine WB.one (i := 0) (by kernel_rfl) rfl ?_
      refine WI.val F rfl rfl rfl (fun c h => by cases h) (ov_fieldAddr rfl f38) <| WI.nil <| WQ.anyB ?_
      refine WB.one (i := 1) (by kernel_rfl) rfl ?_
      refine WI.val F rfl rfl rfl (fun c h => by cases h) (load rfl (q7.step1 s5 (n7 o2).symm)) <| WI.nil <| WQ.anyB ?_
      refine WB.one (i := 3) (by kernel_rfl) rfl ?_
      refine WI.unit F rfl rfl (fun c h => by cases h) (st3 hE3 rfl) <| WI.nil <| WQ.anyB ?_
      refine WB.one (i := 4) (by kernel_rfl) rfl ?_
      refine WI.unit F rfl rfl (fun c h => by cases h) (st4 hE4 rfl) <| WI.nil <| WQ.anyB ?_
      exact WB.fin (by kernel_rfl) <| WQ.seqD <| WZ.ret <| WQ.thenRetD <| WQ.blockRetD <| fin _
  · -- a token: it is noted
    have hnb : (n == 0) = false := by simpa using hn
    unfold yfTok at hr
    simp only [hnb, cond_false] at hr
    replace hr : (if so.length + 1 < 1000000000 then some (true, (so ++ [t], none)) else none) = some r := hr
    obtain ⟨hlen, hr⟩ := ite_none hr
    obtain rfl := Option.some.inj hr
    refine WZ.condF (by rw [← hnb]; rfl) <| WZ.skip <| WQ.seqD <| WZ.region ?_
    have l5 := lne o5
    have q5 := o5.step1 S3 l5
    have F : ∀ f : FuncId, (Fence.wide.inRound l).fn f := fun _ => trivial
    refine WI.val F rfl rfl rfl (fun c h => by cases h) (ov_load1 hE5 t_agg_34 (OB.cell q5 (j := 0) rfl)) ?_
    refine WI.val F rfl rfl rfl (fun c h => by cases h) (ov_loadN (cs := [.int .i64 t.kind, .string t.text, .int .i64 t.pos]) rfl t_agg_38 t_size_38 (OB.cells ob7 0 rfl)) ?_
    refine WI.val F rfl rfl rfl (fun c h => by cases h) (ov_buildSliceD (us := [.agg #[.int .i64 t.kind, .string t.text, .int .i64 t.pos]]) (cs := [.int .i64 t.kind, .string t.text, .int .i64 t.pos]) rfl t_slice_34 t_size_38 z38 rfl (cl_cons rfl cl_nil) rfl rfl rfl) ?_
    have s4 := alloc_row s3.sub [.int .i64 t.kind, .string t.text, .int .i64 t.pos] 38
    have rs1 : RS (hadd h w3.heap.size [.int .i64 t.kind, .string t.text, .int .i64 t.pos]) (.slice (some ⟨w3.heap.size, 0, none⟩) 1 1) [t] := RS.litL _ [[.int .i64 t.kind, .string t.text, .int .i64 t.pos]] rfl rfl (fun o => hadd_new h _ _ o) ⟨rp_Tok.2 rfl, trivial⟩
    generalize hx4 : w3.alloc (.cells [Value.int .i64 t.kind, .string t.text, .int .i64 t.pos].toArray 38) = w4 at s4
    generalize hh4 : hadd h w3.heap.size [Value.int .i64 t.kind, .string t.text, .int .i64 t.pos] = h4 at s4 rs1
    have own3 : Own w3 h B 38 3 vo so.length := own.step S3 (fun b hb => by
      simp only [List.mem_cons, List.not_mem_nil, or_false] at hb; subst hb
      intro q
      rcases own with ⟨rfl, _⟩ | ⟨g, cap, cur, rfl, hbg, hg, _⟩
      · simp [Value.ownBlock] at q
      · simp [Value.ownBlock] at q; subst q; rw [jl] at hg; cases hg)
    have own4 := own3.step0 s4
    have hbase4 : B ≤ w4.heap.size := Nat.le_trans hB (Nat.le_trans S3.size s4.size)
    obtain ⟨v', w5, h5, hrun, r1, r2, s5, r4⟩ := run_append (P := Tryz.prog) (ty := 34) t_slice_34 t_size_38 z38 rfl t_bytes_38 rfl own4 (rs.mono (S3.le.trans s4.le)) rs1 (by simpa using hlen) s4.sub hbase4 (by rw [s4.eqb]; exact hbB)
    refine WI.val F rfl rfl rfl (fun c h => by cases h) (ov_append rfl rfl hrun) ?_
    have q54 := q5.step0 s4
    have q55 := q54.step s5 (fun hm => own4.ne_obS (rs.mono (S3.le.trans s4.le)) q54 b5 hm rfl)
    refine WI.unit F rfl rfl (fun c h => by cases h) (ou_store (vs := [v']) (ds := [v']) hE5 rfl (RS.cellsL r1) c34 (one_cons r1.one one_nil) q55 (by simp) rfl) ?_
    have s6 := setRow_stp s5.sub q55 [v']
    have p5 := setRow_ob q55 [v']
    generalize hv6 : w5.setRow b5 [v'].toArray = w6 at s6 p5
    have rowN : ∀ {b T : Nat} {cs : List Value}, OB w h b T cs → b ∉ vo.ownBlock.toList := fun ob hm => own.ne_obS rs ob _ hm rfl
    have row4 : ∀ {b T : Nat} {cs : List Value}, OB w4 h4 b T cs → b ∉ vo.ownBlock.toList := fun ob hm => own4.ne_obS (rs.mono (S3.le.trans s4.le)) ob _ hm rfl
    have rowl : l ∉ vo.ownBlock.toList := fun hm => by
      rcases own with ⟨rfl, _⟩ | ⟨g, cap, cur, rfl, hbg, hg, _⟩
      · simp [Value.ownBlock] at hm
      · simp [Value.ownBlock] at hm; subst hm; rw [jl] at hg; cases hg
    have rowD : D ∉ vo.ownBlock.toList := fun hm => by
      rcases own with ⟨rfl, _⟩ | ⟨g, cap, cur, rfl, hbg, hg, _⟩
      · simp [Value.ownBlock] at hm
      · simp [Value.ownBlock] at hm; subst hm; rw [jD] at hg; cases hg
    have h3 : l < w3.heap.size := (Array.getElem?_eq_some_iff.1 jl3).1
    have z4 := s4.size
    have z5 := s5.size
    have jl6 : w6.heap[l]? = some (.loop { tokLoop fn a.tmps D .ready none with state := .busy }) := by
      rw [s6.block l (by omega) (by simpa using l5.symm), s5.block l (by omega) rowl, s4.block l h3 (by simp)]
      exact jl3
    have hDw : D < w3.heap.size := (Array.getElem?_eq_some_iff.1 jD3).1
    have d5 : D ≠ b5 := fun q => by subst q; have q := o5.heap; rw [jD] at q; cases q
    have jD6 : w6.heap[D]? = some (.deferred (some [])) := by
      rw [s6.block D (by omega) (by simpa using d5), s5.block D (by omega) rowD, s4.block D hDw (by simp)]
      exact jD3
    have hb6 : h5.base ≤ l := by rw [s5.eqb, s4.eqb]; exact hbl
    have s7 := putObj_stp (o' := .loop { tokLoop fn a.tmps D .ready none with state := .ready, pending := none }) s6.sub jl6 rfl hb6
    refine WI.nil <| WQ.blockND <| WQ.roundN jl6 ⟨true, rfl, rfl, h5, vo.ownBlock.toList ++ [l, b2, b3, b4, b5], ?_, ?_, ?_, ?_⟩
    · have lb := fun {b T : Nat} {cs : List Value} (ob : OB w h b T cs) => lne ob
      have keep : ∀ {b T : Nat} {cs : List Value}, OB w h b T cs → b ≠ b5 → OB (w6.putObj l (.loop { tokLoop fn a.tmps D .ready none with state := .ready, pending := none })) h5 b T cs := fun {b T cs} ob hne =>
        ((((ob.step1 S3 (lne ob)).step0 s4).step s5 (row4 ((ob.step1 S3 (lne ob)).step0 s4))).step1 s6 hne).step1 s7 (lne ob)
      refine ⟨by rw [s5.eqb, s4.eqb]; exact hbD, v', World.putObj_heap_same (Array.getElem?_eq_some_iff.1 jl6).1, ?_, p5.step1 s7 l5, r1.mono ((s6.le).trans s7.le), ?_, keep o2 n25, keep o3 n35, keep o4 n45⟩
      · rw [World.putObj_heap_other (Ne.symm hlD)]; exact jD6
      · refine (r2.step s6 (fun b hb => ?_)).step s7 (fun b hb => ?_)
        · simp only [List.mem_cons, List.not_mem_nil, or_false] at hb; subst hb
          exact r2.ne_obS1 r1 q55
        · simp only [List.mem_cons, List.not_mem_nil, or_false] at hb; subst hb
          have r3 := r2.step s6 (fun b hb => by simp only [List.mem_cons, List.not_mem_nil, or_false] at hb; subst hb; exact r2.ne_obS1 r1 q55)
          intro q
          rcases r3 with ⟨rfl, _⟩ | ⟨g, cap, cur, rfl, hbg, hg, _⟩
          · simp [Value.ownBlock] at q
          · simp [Value.ownBlock] at q; subst q; rw [jl6] at hg; cases hg
    · exact (((((Stp.refl hs _).trans S3 (by simp)).trans0 s4).trans s5 (fun i hi => .inl (List.mem_append_left _ hi))).trans1 s6 (.inl (by simp))).trans1 s7 (.inl (by simp))
    · intro i hi
      rcases List.mem_append.1 hi with hi | hi
      · exact .inr (own.base_le i hi)
      · exact .inl hi
    · intro b T cs ob hb hm
      rcases List.mem_append.1 hm with hm | hm
      · exact rowN ob hm
      · exact hb hm
theorem ok_lexis_Tokens (k : Nat) : C_lexis_Tokens (F_lexis_Tokens k) := by
  intro x1 r HF w0 h0 hs0
  simp only [F_lexis_Tokens, toksM] at HF
  have z34 : tZero Tryz.prog 34 = some (.slice none 0 0) := by kernel_rfl
  have c34 : tSize Tryz.prog 34 = some 1 := by kernel_rfl
  have z38 : tZero Tryz.prog 38 = some (.agg #[.int .i64 0, .string ⟨#[]⟩, .int .i64 0]) := by kernel_rfl
  refine enterM (n := 33) Tryz.func18 rfl Tryz.ntmps18 rfl [(0, .string x1)] rfl ?_
  refine WC.seq <| WC.region ?_
  refine WL.alloc (zs := [.slice none 0 0]) rfl rfl z34 rfl hs0 (fun w1 b2 hb2 s1 ob2 => ?_)
  refine WL.alloc (zs := [.int .i64 0]) rfl rfl t_zero_3 rfl s1.sub (fun w2 b3 hb3 s2 ob3 => ?_)
  refine WL.alloc (zs := [.int .i64 0]) rfl rfl t_zero_23 rfl s2.sub (fun w3 b4 hb4 s3 ob4 => ?_)
  refine WL.nil <| WQ.seqN ?_
  have S3 : Stp [] w0 h0 w3 h0 := (s1.trans0 s2).trans0 s3
  have n23 : b2 ≠ b3 := ob2.ne_new hb3
  have n24 : b2 ≠ b4 := (ob2.step0 s2).ne_new hb4
  have n34 : b3 ≠ b4 := ob3.ne_new hb4
  replace ob2 := (ob2.step0 s2).step0 s3
  replace ob3 := ob3.step0 s3
  have g2 : w0.heap.size ≤ b2 := by omega
  have g3 : w0.heap.size ≤ b3 := by rw [hb3]; exact s1.size
  have g4 : w0.heap.size ≤ b4 := by rw [hb4]; exact (s1.trans0 s2).size
  refine WC.seq <| WC.seq <| WC.region <| Wm rfl rfl <| WL.val rfl rfl rfl (ov_lenS rfl t_string_9) <| WL.val rfl rfl rfl (ov_gtr rfl rfl) <| WL.nil <| WQ.seqN ?_
  refine WC.cF HF rfl (fun HF => ?_) (fun HF => ?_)
  · obtain rfl := Option.some.inj HF
    refine WC.seq <| WC.region ?_
    refine WL.store (vs := [.slice none 0 0]) rfl rfl rfl rfl c34 (one_cons rfl one_nil) ob2 S3.sub (by simp) (ds := [.slice none 0 0]) rfl (fun w5 s5 ob2 => ?_)
    refine WL.store (vs := [.int .i64 0]) rfl rfl rfl rfl t_size_3 (one_cons rfl one_nil) (ob3.step1 s5 n23.symm) s5.sub (by simp) (ds := [.int .i64 0]) rfl (fun w6 s6 ob3 => ?_)
    refine WL.store (vs := [.int .i64 5]) rfl rfl rfl rfl t_size_23 (one_cons rfl one_nil) ((ob4.step1 s5 n24.symm).step1 s6 n34.symm) s6.sub (by simp) (ds := [.int .i64 5]) rfl (fun w7 s7 ob4 => ?_)
    refine WL.nil <| WQ.seqN <| WC.ret <| WQ.thenRet ?_
    refine WQ.M0 (rg3 rfl (ri_cell rfl (run_loadVar1 t_agg_34 (OB.cell ((ob2.step1 s6 n23).step1 s7 n24) (j := 0) rfl))) (ri_cell rfl (run_loadVar1 t_agg_3 (OB.cell (ob3.step1 s7 n34) (j := 0) rfl))) (ri_cell rfl (run_loadVar1 t_agg_23 (OB.cell ob4 (j := 0) rfl)))) ?_
    exact ⟨_, rfl, h0, ((S3.trans1 s5 (.inr g2)).trans1 s6 (.inr g3)).trans1 s7 (.inr g4), _, _, _, rfl, RS.nil _, rfl, rfl⟩
  refine WC.skip <| WQ.seqN ?_
  refine WC.seq <| WC.region ?_
  refine WL.alloc (zs := [.slice none 0 0]) rfl rfl z34 rfl S3.sub (fun w5 b5 hb5 s5 ob5 => ?_)
  refine WL.nil <| WQ.seqN ?_
  have n25 := ob2.ne_new hb5
  have n35 := ob3.ne_new hb5
  have n45 := ob4.ne_new hb5
  have S5 := S3.trans0 s5
  have g5 : w0.heap.size ≤ b5 := by rw [hb5]; exact S3.size
  -- the scanner
  refine WC.seq <| WC.region <| Wm rfl rfl <| WL.val rfl rfl rfl (ov_buildP (vs := [(0, .string x1)]) (cs := [.string x1, .int .i64 0]) rfl (by kernel_rfl : tPlaces Tryz.prog 81 = some [(0, 1), (1, 1)]) (by kernel_rfl : tZero Tryz.prog 81 = some (.agg #[.string ⟨#[]⟩, .int .i64 0])) rfl) ?_
  refine WL.box (cs := [.string x1, .int .i64 0]) rfl rfl rfl rfl S5.sub (fun w6 b6 hb6 s6 ob6 => ?_)
  refine Wa rfl rfl <| WL.nil <| WQ.seqN ?_
  have S6 := S5.trans0 s6
  have n26 : b2 ≠ b6 := (ob2.step0 s5).ne_new hb6
  have n36 : b3 ≠ b6 := (ob3.step0 s5).ne_new hb6
  have n46 : b4 ≠ b6 := (ob4.step0 s5).ne_new hb6
  have n56 : b5 ≠ b6 := ob5.ne_new hb6
  have g6 : w0.heap.size ≤ b6 := by rw [hb6]; exact S5.size
  replace ob2 := (ob2.step0 s5).step0 s6
  replace ob3 := (ob3.step0 s5).step0 s6
  replace ob4 := (ob4.step0 s5).step0 s6
  replace ob5 := ob5.step0 s6
  -- its iterator
  refine WC.seq <| WC.seq <| WC.region <| Wm rfl rfl ?_
  refine Wc rfl (oc_func (vs := [.pointer (some ⟨b6, 0, none⟩)]) rfl (by kernel_rfl)) (K := fun v w7 => ∃ b7, v = .func (.func 65) #[] #[.pointer (some ⟨b7, 0, none⟩)] ∧ w6.heap.size ≤ b7 ∧ Stp [] w6 h0 w7 h0 ∧ OB w7 h0 b7 79 [.pointer (some ⟨b6, 0, none⟩)]) ?_ ?_
  · refine enter (n := 4) Tryz.func41 rfl Tryz.ntmps41 rfl [(0, .pointer (some ⟨b6, 0, none⟩))] rfl ?_
    refine WC.seq <| WC.region ?_
    refine WL.box (cs := [.pointer (some ⟨b6, 0, none⟩)]) rfl rfl rfl rfl S6.sub (fun w7 b7 hb7 s7 ob7 => ?_)
    refine Wa rfl rfl <| WL.nil <| WQ.seqN <| WC.seq <| WC.region <| WL.val rfl rfl rfl (ov_makeFunc (vs := [.pointer (some ⟨b7, 0, none⟩)]) rfl) <| Wa rfl rfl <| WL.nil <| WQ.seqN <| WC.ret <| WQ.ret1 rfl rfl ?_
    exact ⟨_, rfl, b7, rfl, by omega, s7, ob7⟩
  rintro _ w7 ⟨b7, rfl, hb7, s7, ob7⟩
  refine WL.nil <| WQ.seqN ?_
  have S7 := S6.trans0 s7
  have n67 : b6 ≠ b7 := ob6.ne_ge hb7
  have n27 : b2 ≠ b7 := ob2.ne_ge hb7
  have n37 : b3 ≠ b7 := ob3.ne_ge hb7
  have n47 : b4 ≠ b7 := ob4.ne_ge hb7
  have n57 : b5 ≠ b7 := ob5.ne_ge hb7
  replace ob2 := ob2.step0 s7
  replace ob3 := ob3.step0 s7
  replace ob4 := ob4.step0 s7
  replace ob5 := ob5.step0 s7
  replace ob6 := ob6.step0 s7
  -- the loop
  obtain ⟨q, hq, HF⟩ := bind_some HF
  refine WC.block <| WC.rangeFunc (lb := [.pointer (some ⟨b7, 0, none⟩)]) rfl (by kernel_rfl) rfl (fun a fn hat W1 hW1 => ?_)
  have sA : Stp [] w7 h0 (w7.alloc (.deferred (some []))) h0 := alloc_stp S7.sub _
  have sB : Stp [] w7 h0 W1 h0 := by rw [hW1]; exact sA.trans0 (alloc_stp sA.sub _)
  have hl1 : W1.heap[w7.heap.size + 1]? = some (.loop (tokLoop fn a.tmps w7.heap.size .ready none)) := by
    rw [hW1]
    have := World.alloc_heap_new (w7.alloc (.deferred (some []))) (.loop (tokLoop fn a.tmps w7.heap.size .ready none))
    rw [World.size_alloc] at this
    exact this
  have hD1 : W1.heap[w7.heap.size]? = some (.deferred (some [])) := by
    rw [hW1]; exact (Go.RowKit.Below.heap_alloc _ _ _ (by simp)).trans (World.alloc_heap_new w7 _)
  have hsz : W1.heap.size = w7.heap.size + 2 := by rw [hW1]; simp
  have z0 := S7.size
  have L : ∀ {b T : Nat} {cs : List Value}, OB w7 h0 b T cs → b < w7.heap.size := fun ob => ob.lt
  have k2 := L ob2
  have k3 := L ob3
  have k4 := L ob4
  have k5 := L ob5
  have k6 := L ob6
  have k7 := L ob7
  replace ob2 := ob2.step0 sB
  replace ob3 := ob3.step0 sB
  replace ob4 := ob4.step0 sB
  replace ob5 := ob5.step0 sB
  replace ob6 := ob6.step0 sB
  replace ob7 := ob7.step0 sB
  have hbase := S7.sub.big
  refine (ok_lexis_scanner_tokens_1 k hq (l1 := w7.heap.size + 1) (J := TokJ (w7.heap.size + 1) w7.heap.size b2 b3 b4 b5 W1.heap.size (tokLoop fn a.tmps w7.heap.size .ready none) (tokLoop fn a.tmps w7.heap.size .done (some .ret))) (MY := [w7.heap.size + 1, b2, b3, b4, b5]) sB.sub ?_ (fun s w h M w1 h1 j st ym => j.step st ym) ?_ ob7 ob6 ⟨by omega, .slice none 0 0, hl1, hD1, ob5, RS.nil _, Own.nil _ _ _ _ _, ob2, ob3, ob4⟩ n67.symm (by simp; omega) (by simp; omega)).mono ?_
  · intro i hi
    simp only [List.mem_cons, List.not_mem_nil, or_false] at hi
    omega
  · intro s t n r w h cs hr j hge hs hR
    exact tok_round hat rfl rfl rfl rfl n23 n24 n34 n25 n35 n45 rfl (by omega) s t n r w h cs hr j hge hs hR
  rintro e w8 ⟨v, rfl, h8, s8, rfl, ob6, j⟩
  obtain ⟨_, vo, jl, jD, o5, rs, own, o2, o3, o4⟩ := j
  have S8 : Stp [] w0 h0 w8 h8 := (S7.trans0 sB).trans s8 (fun i hi => .inr (by
    simp only [List.cons_append, List.nil_append, List.mem_cons, List.not_mem_nil, or_false] at hi
    rcases hi with rfl | rfl | rfl | rfl | rfl | rfl <;> omega))
  have hb8 : h8.base ≤ w7.heap.size := by rw [S8.eqb]; exact Nat.le_trans hs0.big z0
  have lne : ∀ {b T : Nat} {cs : List Value}, OB w8 h8 b T cs → b ≠ w7.heap.size + 1 := fun ob q => by subst q; have q := ob.heap; rw [jl] at q; cases q
  have dne : ∀ {b T : Nat} {cs : List Value}, OB w8 h8 b T cs → b ≠ w7.heap.size := fun ob q => by subst q; have q := ob.heap; rw [jD] at q; cases q
  rcases hs2 : q.2.2 with _ | at_
  · -- all have come
    rw [hs2] at HF jl o3 o4
    obtain ⟨hlen, HF⟩ := ite_none HF
    obtain rfl := Option.some.inj HF
    have s9 := putObj_stp (o' := .loop { tokLoop fn a.tmps w7.heap.size .ready none with state := .exhausted }) S8.sub jl rfl (by omega)
    refine ⟨_, none, _, rfl, run_endLoop jl (by simp [tokLoop]), ?_⟩
    have jD9 : (w8.putObj (w7.heap.size + 1) (.loop { tokLoop fn a.tmps w7.heap.size .ready none with state := .exhausted })).heap[w7.heap.size]? = some (.deferred (some [])) := (World.putObj_heap_other (by omega)).trans jD
    generalize hw9 : w8.putObj (w7.heap.size + 1) (.loop { tokLoop fn a.tmps w7.heap.size .ready none with state := .exhausted }) = w9 at s9 jD9
    have S9 : Stp [] w0 h0 w9 h8 := S8.trans1 s9 (.inr (by omega))
    have p2 := o2.step1 s9 (lne o2)
    have p3 := o3.step1 s9 (lne o3)
    have p4 := o4.step1 s9 (lne o4)
    have p5 := o5.step1 s9 (lne o5)
    have own9 := own.step s9 (fun b hb => by
      simp only [List.mem_cons, List.not_mem_nil, or_false] at hb; subst hb
      intro q
      rcases own with ⟨rfl, _⟩ | ⟨g, cap, cur, rfl, hbg, hg, _⟩
      · simp [Value.ownBlock] at q
      · simp [Value.ownBlock] at q; subst q; rw [jl] at hg; cases hg)
    refine WQ.blockN <| WQ.seqN <| WC.seq <| WC.region ?_
    refine WL.val rfl rfl rfl (ov_load1 rfl t_agg_34 (OB.cell p5 (j := 0) rfl)) <| Wm rfl rfl <| WL.val rfl rfl rfl (ov_lenS rfl t_string_9) ?_
    refine WL.val rfl rfl rfl (ov_buildP (vs := [(0, .int .i64 7), (2, .int .i64 x1.size)]) (cs := [.int .i64 7, .string ⟨#[]⟩, .int .i64 x1.size]) rfl t_places_38 z38 rfl) ?_
    refine WL.buildSliceD (us := [.agg #[.int .i64 7, .string ⟨#[]⟩, .int .i64 x1.size]]) (cs := [.int .i64 7, .string ⟨#[]⟩, .int .i64 x1.size]) rfl rfl rfl t_slice_34 t_size_38 z38 rfl (cl_cons rfl cl_nil) rfl rfl rfl s9.sub (fun wA hA bA hbA sA' hkA hcA => ?_)
    have rsA : RS hA (.slice (some ⟨bA, 0, none⟩) 1 1) ([⟨7, ⟨#[]⟩, (x1.size : Int)⟩] : List Tok) := RS.litL _ [[.int .i64 7, .string ⟨#[]⟩, .int .i64 x1.size]] rfl rfl hcA ⟨rp_Tok.2 rfl, trivial⟩
    have ownA := own9.step0 sA'
    have SA := S9.trans0 sA'
    have zz := SA.size
    refine WL.append (xs := q.2.1) (ys := ([⟨7, ⟨#[]⟩, (x1.size : Int)⟩] : List Tok)) rfl rfl rfl rfl t_slice_34 t_size_38 z38 rfl t_bytes_38 rfl ownA (rs.mono (s9.le.trans sA'.le)) rsA hlen sA'.sub (Nat.le_trans s8.size (Nat.le_trans s9.size sA'.size)) (by rw [SA.eqb]; exact Nat.le_trans hs0.big (by omega)) (fun vB wB hB rB owB sB' _ => ?_)
    have SB : Stp [] w0 h0 wB hB := SA.trans sB' (fun i hi => .inr (by have := ownA.base_le i hi; omega))
    have row : ∀ {b T : Nat} {cs : List Value}, OB wA hA b T cs → b ∉ vo.ownBlock.toList := fun ob hm => ownA.ne_obS (rs.mono (s9.le.trans sA'.le)) ob _ hm rfl
    replace p2 := (p2.step0 sA').step sB' (row (p2.step0 sA'))
    replace p3 := (p3.step0 sA').step sB' (row (p3.step0 sA'))
    replace p4 := (p4.step0 sA').step sB' (row (p4.step0 sA'))
    refine WL.store (vs := [vB]) rfl rfl rfl (RS.cellsL rB) c34 (one_cons rB.one one_nil) p2 sB'.sub (by simp) (ds := [vB]) rfl (fun wC sC p2 => ?_)
    refine WL.store (vs := [.int .i64 0]) rfl rfl rfl rfl t_size_3 (one_cons rfl one_nil) (p3.step1 sC n23.symm) sC.sub (by simp) (ds := [.int .i64 0]) rfl (fun wD sD p3 => ?_)
    refine WL.store (vs := [.int .i64 0]) rfl rfl rfl rfl t_size_23 (one_cons rfl one_nil) ((p4.step1 sC n24.symm).step1 sD n34.symm) sD.sub (by simp) (ds := [.int .i64 0]) rfl (fun wE sE p4 => ?_)
    refine WL.nil <| WQ.seqN <| WC.ret ?_
    have SE := ((SB.trans1 sC (.inr g2)).trans1 sD (.inr g3)).trans1 sE (.inr g4)
    have jDE : wE.heap[w7.heap.size]? = some (.deferred (some [])) := by
      have y9 := (Array.getElem?_eq_some_iff.1 jD9).1
      have y1 := sA'.size
      have y2 := sB'.size
      have y3 := sC.size
      have y4 := sD.size
      have hrow : w7.heap.size ∉ vo.ownBlock.toList := fun hm => by have := own.base_le _ hm; omega
      rw [sE.block _ (by omega) (by simp; exact (dne o4).symm), sD.block _ (by omega) (by simp; exact (dne o3).symm), sC.block _ (by omega) (by simp; exact (dne o2).symm), sB'.block _ (by omega) hrow, sA'.block _ y9 (by simp)]
      exact jD9
    have sF := putObj_stp (o' := .deferred none) SE.sub jDE rfl (by rw [SE.eqb]; exact Nat.le_trans hs0.big (by omega))
    refine WQ.M1 (D := w7.heap.size) jDE (rg3 rfl (ri_cell rfl (run_loadVar1 t_agg_34 (OB.cell (((p2.step1 sD n23).step1 sE n24).step1 sF (dne o2)) (j := 0) rfl))) (ri_cell rfl (run_loadVar1 t_agg_3 (OB.cell ((p3.step1 sE n34).step1 sF (dne o3)) (j := 0) rfl))) (ri_cell rfl (run_loadVar1 t_agg_23 (OB.cell (p4.step1 sF (dne o4)) (j := 0) rfl)))) ?_
    exact ⟨_, rfl, hB, SE.trans1 sF (.inr (by omega)), _, _, _, rfl, rB.mono ((((sC.le).trans sD.le).trans sE.le).trans sF.le), rfl, rfl⟩
  · -- one has not come
    rw [hs2] at HF jl o3 o4
    obtain rfl := Option.some.inj HF
    have s9 := putObj_stp (o' := .loop { tokLoop fn a.tmps w7.heap.size .done (some .ret) with state := .exhausted }) S8.sub jl rfl (by omega)
    refine ⟨_, some .ret, _, rfl, run_endLoop jl (by simp [tokLoop]), ?_⟩
    have jD9 : (w8.putObj (w7.heap.size + 1) (.loop { tokLoop fn a.tmps w7.heap.size .done (some .ret) with state := .exhausted })).heap[w7.heap.size]? = some (.deferred (some [])) := (World.putObj_heap_other (by omega)).trans jD
    generalize hw9 : w8.putObj (w7.heap.size + 1) (.loop { tokLoop fn a.tmps w7.heap.size .done (some .ret) with state := .exhausted }) = w9 at s9 jD9
    have S9 : Stp [] w0 h0 w9 h8 := S8.trans1 s9 (.inr (by omega))
    have sF := putObj_stp (o' := .deferred none) S9.sub jD9 rfl hb8
    refine WC.ret <| WQ.blockRet <| WQ.thenRet ?_
    refine WQ.M1 (D := w7.heap.size) jD9 (rg3 rfl (ri_cell rfl (run_loadVar1 t_agg_34 (OB.cell ((o2.step1 s9 (lne o2)).step1 sF (dne o2)) (j := 0) rfl))) (ri_cell rfl (run_loadVar1 t_agg_3 (OB.cell ((o3.step1 s9 (lne o3)).step1 sF (dne o3)) (j := 0) rfl))) (ri_cell rfl (run_loadVar1 t_agg_23 (OB.cell ((o4.step1 s9 (lne o4)).step1 sF (dne o4)) (j := 0) rfl)))) ?_
    exact ⟨_, rfl, h8, S9.trans1 sF (.inr (by omega)), _, _, _, rfl, RS.nil _, rfl, rfl⟩


def C_parse_Source_1_ret (φ : Int → Int → Option Unit) : Prop := ∀ ⦃x3 : Int⦄ ⦃x7 : Int⦄ ⦃r : Unit⦄, φ x3 x7 = some r → ∀ ⦃w0 : World⦄ ⦃h0 : Hp⦄ ⦃b1 : Nat⦄ ⦃T2 : Nat⦄ ⦃b5 : Nat⦄ ⦃T6 : Nat⦄, Sub h0 w0 → OB w0 h0 b1 T2 [.int .i64 x3] → OB w0 h0 b5 T6 [.int .i64 x7] → b1 ≠ b5 →
  CallsD Tryz.prog 98 #[.pointer (some ⟨b1, 0, none⟩), .pointer (some ⟨b5, 0, none⟩)] .returning w0 fun e u w1 => u = .returning ∧ ∃ v, e = .returned v ∧ ∃ h1, Stp [] w0 h0 w1 h1 ∧ v = .tuple #[]
theorem s_parse_Source_1_ret (k : Nat) : C_parse_Source_1_ret (F_parse_Source_1_ret k) := by
 intro x3 x7 r HF w0 h0 b1 T2 b5 T6 hs0 ob4 ob8 ne9
 have S0 : Stp [] w0 h0 w0 h0 := Stp.refl hs0 _
 have lt10 : b1 < w0.heap.size := OB.lt ob4
 have lt11 : b5 < w0.heap.size := OB.lt ob8
 refine enterR (n := 15) (dd := 5) (x := .nilIface) (.inl ⟨rfl, rfl, rfl⟩) Tryz.func98 rfl Tryz.ntmps98 rfl rfl [(5, .nilIface), (0, pt b1 0), (1, pt b5 0)] rfl <| WC.block <| WC.seq <| WC.region <| Wv rfl (ov_eqlNN rfl t_imeth_20) <| WL.nil <| WQ.seqN <| WC.condT rfl <| WC.region <| Wa rfl rfl <| WL.nil <| WQ.blockN <| WQ.end0 rfl ?_
 obtain rfl := Option.some.inj HF
 exact ⟨_, rfl, h0, S0, rfl⟩
theorem ok_parse_Source_1_ret (k : Nat) : C_parse_Source_1_ret (F_parse_Source_1_ret k) := s_parse_Source_1_ret k

def C_parse_Source (φ : ByteArray → (List St) → Option (Int × Int × List St)) : Prop := ∀ ⦃x1 : ByteArray⦄ ⦃xs7 : List St⦄ ⦃r : Int × Int × List St⦄, φ x1 xs7 = some r → ∀ ⦃w0 : World⦄ ⦃h0 : Hp⦄ ⦃b2 : Nat⦄ ⦃T3 : Nat⦄ ⦃b5 : Nat⦄ ⦃T6 : Nat⦄ ⦃v8 : Value⦄, Sub h0 w0 → RS h0 v8 xs7 → OB w0 h0 b2 T3 [.func (.func 33) #[] #[]] → OB w0 h0 b5 T6 [v8] → b2 ≠ b5 →
  Calls Tryz.prog 54 #[.string x1, .func (.func 55) #[] #[.pointer (some ⟨b2, 0, none⟩), .pointer (some ⟨b5, 0, none⟩)]] w0 fun e w1 => ∃ v, e = .returned v ∧ ∃ h1, Stp [b5] w0 h0 w1 h1 ∧ (∃ u0 u1 : Value, v = .tuple #[u0, u1] ∧ (u0 = .int .i64 r.1) ∧ (u1 = .int .i64 r.2.1)) ∧ (∃ y0 : Value, RS h1 y0 r.2.2 ∧ OB w1 h1 b5 T6 [y0])
theorem s_parse_Source (k : Nat) : C_parse_Source (F_parse_Source k) := by
 intro x1 xs7 r HF w0 h0 b2 T3 b5 T6 v8 hs0 rs9 ob4 ob10 ne11
 have S0 : Stp [b5] w0 h0 w0 h0 := Stp.refl hs0 _
 have lt12 : b2 < w0.heap.size := OB.lt ob4
 have lt13 : b5 < w0.heap.size := OB.lt ob10
 refine enterD (n := 27) Tryz.func54 rfl Tryz.ntmps54 rfl [(0, .string x1), (1, .func (.func 55) #[] #[pt b2 0, pt b5 0])] rfl <| WC.seq <| WC.region <| WL.alloc (zs := [vi 0]) rfl rfl t_zero_3 rfl S0.sub (fun w14 b15 hb16 s17 ob18 => ?_)
 have ne19 : b2 ≠ b15 := ob4.ne_new hb16
 have ne20 : b5 ≠ b15 := ob10.ne_new hb16
 have g21 : w0.heap.size ≤ b15 := by rw [hb16]; exact S0.size
 have S22 := S0.trans0 s17
 have ob23 := (ob4.step0 s17)
 have ob24 := (ob10.step0 s17)
 refine WL.alloc (zs := [vi 0]) rfl rfl t_zero_23 rfl S22.sub (fun w25 b26 hb27 s28 ob29 => ?_)
 have ne30 : b2 ≠ b26 := ob23.ne_new hb27
 have ne31 : b5 ≠ b26 := ob24.ne_new hb27
 have ne32 : b15 ≠ b26 := ob18.ne_new hb27
 have g33 : w0.heap.size ≤ b26 := by rw [hb27]; exact S22.size
 have S34 := S22.trans0 s28
 refine WL.nil <| WQ.seqN <| WC.seq <| WC.region <| Wm rfl rfl ?_
 obtain ⟨r35, hr36, HF⟩ := bind_some HF
 refine Wc rfl (oc_func (vs := [.string x1]) rfl t_ent_18) (ok_lexis_Tokens _ hr36 S34.sub) ?_
 rintro _ w38 ⟨h39, s40, v41, _, _, rfl, rs42, rfl, rfl⟩
 have S43 := S34.trans0 s40
 refine Wm rfl rfl <| Wv rfl (ov_extract rfl rfl) <| Wv rfl (ov_extract rfl rfl) <| Wv rfl (ov_extract rfl rfl) <| Wa rfl rfl ?_
 have ob44 := ((ob18.step0 s28).step0 s40)
 refine WL.store (vs := [vi r35.2.1]) rfl rfl rfl rfl t_size_3 (one_cons rfl one_nil) ob44 S43.sub (by simp) (ds := [vi r35.2.1]) rfl (fun w45 s46 ob47 => ?_)
 have S48 := S43.trans1 s46 (.inr g21)
 have ob49 := ((ob29.step0 s40).step1 s46 (Ne.symm ne32))
 refine WL.store (vs := [vi r35.2.2]) rfl rfl rfl rfl t_size_23 (one_cons rfl one_nil) ob49 S48.sub (by simp) (ds := [vi r35.2.2]) rfl (fun w50 s51 ob52 => ?_)
 have S53 := S48.trans1 s51 (.inr g33)
 refine WL.nil <| WQ.seqN <| WC.join (fun E w96 => ∃ (h95 : Hp), parse_Source_j1 k xs7 r35 = some r ∧ E = [(1, .func (.func 55) #[] #[pt b2 0, pt b5 0]), (4, pt b15 0), (5, pt b26 0), (6, v41)] ∧ Stp [b5] w0 h0 w96 h95 ∧ Hle h39 h95 ∧ OB w96 h95 b2 T3 [.func (.func 33) #[] #[]] ∧ OB w96 h95 b5 T6 [v8] ∧ OB w96 h95 b15 3 [vi r35.2.1] ∧ OB w96 h95 b26 23 [vi r35.2.2]) ?_ ?_
 ·rintro E w96 ⟨h95, HF, rfl, S98, le97, ob99, ob100, ob101, ob102⟩
  refine WC.seq <| WC.region <| Wv rfl (ov_makeFunc (vs := [pt b15 0, pt b26 0]) rfl) <| WL.defer rfl rfl <| WL.nil <| WQ.seqN <| WC.seq <| WC.region <| Wm rfl rfl ?_
  obtain ⟨A103, c104, rfl, rs105⟩ := RS.form (rs42.mono ((s46.le).trans ((s51.le).trans le97)))
  refine Wv rfl (ov_buildP (vs := [(0, .slice A103 (r35.1).length c104)]) (cs := [.slice A103 (r35.1).length c104, vi 0]) rfl t_places_140 t_zero_140 rfl) <| WL.box (cs := [.slice A103 (r35.1).length c104, vi 0]) rfl rfl rfl rfl S98.sub (fun w106 b107 hb108 s109 ob110 => ?_)
  have ne111 : b2 ≠ b107 := ob99.ne_new hb108
  have ne112 : b5 ≠ b107 := ob100.ne_new hb108
  have ne113 : b15 ≠ b107 := ob101.ne_new hb108
  have ne114 : b26 ≠ b107 := ob102.ne_new hb108
  have g115 : w0.heap.size ≤ b107 := by rw [hb108]; exact S98.size
  have S116 := S98.trans0 s109
  refine Wa rfl rfl <| WL.nil <| WQ.seqN <| WC.seq <| WC.region <| Wm rfl rfl <| Wm rfl rfl ?_
  have ob117 := (ob99.step0 s109)
  have ob118 := (ob100.step0 s109)
  obtain ⟨r119, hr120, HF⟩ := bind_some HF
  rcases r119 with t121 | r122
  ·replace HF := catchE_err HF
   refine WL.callE rfl (oc_val (vs := [pt b107 0]) (caps := [pt b2 0, pt b5 0]) rfl rfl t_ent_55) (ok_syntax_read_api_Stmt_1 _ hr120 S116.sub (rs105.mono (s109.le)) (rs9.mono ((s17.le).trans ((s28.le).trans ((s40.le).trans ((s46.le).trans ((s51.le).trans ((le97).trans s109.le))))))) ob110 ob117 ob118 (Ne.symm ne111) (Ne.symm ne112) ne11) ?_
   rintro ch131 w132 ⟨rfl, h134, s135, ob127, ⟨v128, rs129, ob130⟩⟩
   refine WQ.thenPanic ?_
   have S136 := S116.trans s135 (in_cons (.inr g115) (in_cons (.inl (by simp)) in_nil))
   have ob137 := ((ob101.step0 s109).step s135 (ni_cons ne113 (ni_cons (Ne.symm ne20) ni_nil)))
   have ob138 := ((ob102.step0 s109).step s135 (ni_cons ne114 (ni_cons (Ne.symm ne31) ni_nil)))
   obtain ⟨r139, hr140, HF⟩ := bind_some HF
   refine WQ.D1panic rfl t_ent_98 (ok_parse_Source_1_panic _ hr140 S136.sub ob137 ob138 ne32) ?_
   have ob144 := (ob117.step s135 (ni_cons ne111 (ni_cons ne11 ni_nil)))
   rintro _ w141 ⟨h142, s143, rfl, ob145, ob146⟩
   have S147 := S136.trans s143 (in_cons (.inr g21) (in_cons (.inr g33) in_nil))
   have ob148 := (ob130.step s143 (ni_cons ne20 (ni_cons ne31 ni_nil)))
   refine ⟨_, rg2 rfl (ri_cell rfl (run_loadVar1 t_agg_3 (OB.cell ob145 (j := 0) rfl))) (ri_cell rfl (run_loadVar1 t_agg_23 (OB.cell ob146 (j := 0) rfl))), ?_⟩
   obtain rfl := Option.some.inj HF
   exact ⟨_, rfl, h142, S147, ⟨_, _, rfl, rfl, rfl⟩, ⟨_, (rs129.mono (s143.le)), ob148⟩⟩
  replace HF := catchE_ok HF
  refine Wc rfl (oc_val (vs := [pt b107 0]) (caps := [pt b2 0, pt b5 0]) rfl rfl t_ent_55) (ok_syntax_read_api_Stmt_1 _ hr120 S116.sub (rs105.mono (s109.le)) (rs9.mono ((s17.le).trans ((s28.le).trans ((s40.le).trans ((s46.le).trans ((s51.le).trans ((le97).trans s109.le))))))) ob110 ob117 ob118 (Ne.symm ne111) (Ne.symm ne112) ne11) ?_
  rintro v123 w124 ⟨h125, s126, rfl, ob149, ⟨v150, rs151, ob152⟩⟩
  have S153 := S116.trans s126 (in_cons (.inr g115) (in_cons (.inl (by simp)) in_nil))
  refine WL.nil <| WQ.seqN <| WC.seq <| WC.region <| Wm rfl rfl ?_
  obtain ⟨r154, hr155, HF⟩ := bind_some HF
  rcases r154 with t156 | r157
  ·replace HF := catchE_err HF
   refine WL.callE rfl (oc_func (vs := [pt b107 0, vi 7]) rfl t_ent_99) (ok_parse_Parser_Take _ hr155 S153.sub (rs105.mono ((s109.le).trans s126.le)) ob149) ?_
   rintro ch163 w164 ⟨rfl, h166, s167, ob162⟩
   refine WQ.thenPanic ?_
   have S168 := S153.trans s167 (in_cons (.inr g115) in_nil)
   have ob169 := (((ob101.step0 s109).step s126 (ni_cons ne113 (ni_cons (Ne.symm ne20) ni_nil))).step1 s167 ne113)
   have ob170 := (((ob102.step0 s109).step s126 (ni_cons ne114 (ni_cons (Ne.symm ne31) ni_nil))).step1 s167 ne114)
   obtain ⟨r171, hr172, HF⟩ := bind_some HF
   refine WQ.D1panic rfl t_ent_98 (ok_parse_Source_1_panic _ hr172 S168.sub ob169 ob170 ne32) ?_
   have ob176 := ((ob117.step s126 (ni_cons ne111 (ni_cons ne11 ni_nil))).step1 s167 ne111)
   have ob177 := (ob152.step1 s167 ne112)
   rintro _ w173 ⟨h174, s175, rfl, ob178, ob179⟩
   have S180 := S168.trans s175 (in_cons (.inr g21) (in_cons (.inr g33) in_nil))
   have ob181 := (ob177.step s175 (ni_cons ne20 (ni_cons ne31 ni_nil)))
   refine ⟨_, rg2 rfl (ri_cell rfl (run_loadVar1 t_agg_3 (OB.cell ob178 (j := 0) rfl))) (ri_cell rfl (run_loadVar1 t_agg_23 (OB.cell ob179 (j := 0) rfl))), ?_⟩
   obtain rfl := Option.some.inj HF
   exact ⟨_, rfl, h174, S180, ⟨_, _, rfl, rfl, rfl⟩, ⟨_, (rs151.mono ((s167.le).trans s175.le)), ob181⟩⟩
  replace HF := catchE_ok HF
  refine Wc rfl (oc_func (vs := [pt b107 0, vi 7]) rfl t_ent_99) (ok_parse_Parser_Take _ hr155 S153.sub (rs105.mono ((s109.le).trans s126.le)) ob149) ?_
  rintro _ w159 ⟨h160, s161, rfl, ob182⟩
  have S183 := S153.trans s161 (in_cons (.inr g115) in_nil)
  refine WL.nil <| WQ.seqN <| WC.seq <| WC.region ?_
  have ob184 := (((ob101.step0 s109).step s126 (ni_cons ne113 (ni_cons (Ne.symm ne20) ni_nil))).step1 s161 ne113)
  refine WL.store (vs := [vi 0]) rfl rfl rfl rfl t_size_3 (one_cons rfl one_nil) ob184 S183.sub (by simp) (ds := [vi 0]) rfl (fun w185 s186 ob187 => ?_)
  have S188 := S183.trans1 s186 (.inr g21)
  have ob189 := ((((ob102.step0 s109).step s126 (ni_cons ne114 (ni_cons (Ne.symm ne31) ni_nil))).step1 s161 ne114).step1 s186 (Ne.symm ne32))
  refine WL.store (vs := [vi 0]) rfl rfl rfl rfl t_size_23 (one_cons rfl one_nil) ob189 S188.sub (by simp) (ds := [vi 0]) rfl (fun w190 s191 ob192 => ?_)
  have S193 := S188.trans1 s191 (.inr g33)
  refine WL.nil <| WQ.seqN <| WC.ret ?_
  have ob194 := (ob187.step1 s191 ne32)
  obtain ⟨r195, hr196, HF⟩ := bind_some HF
  refine WQ.D1ret rfl t_ent_98 (ok_parse_Source_1_ret _ hr196 S193.sub ob194 ob192 ne32) ?_
  have ob200 := ((((ob117.step s126 (ni_cons ne111 (ni_cons ne11 ni_nil))).step1 s161 ne111).step1 s186 ne19).step1 s191 ne30)
  have ob201 := (((ob152.step1 s161 ne112).step1 s186 ne20).step1 s191 ne31)
  have ob202 := ((ob182.step1 s186 (Ne.symm ne113)).step1 s191 (Ne.symm ne114))
  rintro _ w197 ⟨h198, s199, rfl⟩
  have S203 := S193.trans0 s199
  have ob204 := (ob201.step0 s199)
  have ob205 := (ob194.step0 s199)
  have ob206 := (ob192.step0 s199)
  refine ⟨_, rg2 rfl (ri_cell rfl (run_loadVar1 t_agg_3 (OB.cell ob205 (j := 0) rfl))) (ri_cell rfl (run_loadVar1 t_agg_23 (OB.cell ob206 (j := 0) rfl))), ?_⟩
  obtain rfl := Option.some.inj HF
  exact ⟨_, rfl, h198, S203, ⟨_, _, rfl, rfl, rfl⟩, ⟨_, (rs151.mono ((s161.le).trans ((s186.le).trans ((s191.le).trans s199.le)))), ob204⟩⟩
 intro J207
 refine WC.seq <| WC.region <| Wv rfl (ov_load1 rfl t_agg_23 (OB.cell ob52 (j := 0) rfl)) <| Wv rfl (ov_neq rfl rfl) <| WL.nil <| WQ.seqN <| WC.cF HF rfl (fun HF => ?_) (fun HF => ?_)
 ·refine WC.seq <| WC.drawnA t_mixed S53.sub (fun w55 s56 => ?_)
  have S57 := S53.trans0 s56
  refine WA.two (i := 0) (j := 1) (by kernel_rfl) rfl rfl ?_ ?_
  ·skip
   have ob58 := ((ob47.step1 s51 ne32).step0 s56)
   refine Wv rfl (ov_load1 rfl t_agg_3 (OB.cell ob58 (j := 0) rfl)) <| WL.nil <| WQ.anyN <| WA.two (i := 1) (j := 2) (by kernel_rfl) rfl rfl ?_ ?_
   ·skip
    have ob59 := (ob52.step0 s56)
    refine Wv rfl (ov_load1 rfl t_agg_23 (OB.cell ob59 (j := 0) rfl)) <| WL.nil <| WQ.anyN <| WA.one (i := 2) (by kernel_rfl) rfl <| WL.store (vs := [vi r35.2.1]) rfl rfl rfl rfl t_size_3 (one_cons rfl one_nil) ob58 S57.sub (by simp) (ds := [vi r35.2.1]) rfl (fun w60 s61 ob62 => ?_)
    have S63 := S57.trans1 s61 (.inr g21)
    refine WL.nil <| WQ.anyN <| WA.one (i := 3) (by kernel_rfl) rfl ?_
    have ob64 := (ob59.step1 s61 (Ne.symm ne32))
    refine WL.store (vs := [vi r35.2.2]) rfl rfl rfl rfl t_size_23 (one_cons rfl one_nil) ob64 S63.sub (by simp) (ds := [vi r35.2.2]) rfl (fun w65 s66 ob67 => ?_)
    have S68 := S63.trans1 s66 (.inr g33)
    refine WL.nil <| WQ.anyN <| WA.fin (by kernel_rfl) <| WQ.seqN <| WC.ret <| WQ.thenRet <| WQ.D0ret ?_
    have ob69 := (((((((ob24.step0 s28).step0 s40).step1 s46 ne20).step1 s51 ne31).step0 s56).step1 s61 ne20).step1 s66 ne31)
    have ob70 := (ob62.step1 s66 ne32)
    refine WQ.retG (rg2 rfl (ri_cell rfl (run_loadVar1 t_agg_3 (OB.cell ob70 (j := 0) rfl))) (ri_cell rfl (run_loadVar1 t_agg_23 (OB.cell ob67 (j := 0) rfl)))) ?_
    obtain rfl := Option.some.inj HF
    exact ⟨_, rfl, h39, S68, ⟨_, _, rfl, rfl, rfl⟩, ⟨_, (rs9.mono ((s17.le).trans ((s28.le).trans ((s40.le).trans ((s46.le).trans ((s51.le).trans ((s56.le).trans ((s61.le).trans s66.le)))))))), ob69⟩⟩
   skip
   refine WL.store (vs := [vi r35.2.1]) rfl rfl rfl rfl t_size_3 (one_cons rfl one_nil) ob58 S57.sub (by simp) (ds := [vi r35.2.1]) rfl (fun w71 s72 ob73 => ?_)
   have S74 := S57.trans1 s72 (.inr g21)
   refine WL.nil <| WQ.anyN <| WA.one (i := 1) (by kernel_rfl) rfl ?_
   have ob75 := ((ob52.step0 s56).step1 s72 (Ne.symm ne32))
   refine Wv rfl (ov_load1 rfl t_agg_23 (OB.cell ob75 (j := 0) rfl)) <| WL.nil <| WQ.anyN <| WA.one (i := 3) (by kernel_rfl) rfl <| WL.store (vs := [vi r35.2.2]) rfl rfl rfl rfl t_size_23 (one_cons rfl one_nil) ob75 S74.sub (by simp) (ds := [vi r35.2.2]) rfl (fun w76 s77 ob78 => ?_)
   have S79 := S74.trans1 s77 (.inr g33)
   refine WL.nil <| WQ.anyN <| WA.fin (by kernel_rfl) <| WQ.seqN <| WC.ret <| WQ.thenRet <| WQ.D0ret ?_
   have ob80 := (((((((ob24.step0 s28).step0 s40).step1 s46 ne20).step1 s51 ne31).step0 s56).step1 s72 ne20).step1 s77 ne31)
   have ob81 := (ob73.step1 s77 ne32)
   refine WQ.retG (rg2 rfl (ri_cell rfl (run_loadVar1 t_agg_3 (OB.cell ob81 (j := 0) rfl))) (ri_cell rfl (run_loadVar1 t_agg_23 (OB.cell ob78 (j := 0) rfl)))) ?_
   obtain rfl := Option.some.inj HF
   exact ⟨_, rfl, h39, S79, ⟨_, _, rfl, rfl, rfl⟩, ⟨_, (rs9.mono ((s17.le).trans ((s28.le).trans ((s40.le).trans ((s46.le).trans ((s51.le).trans ((s56.le).trans ((s72.le).trans s77.le)))))))), ob80⟩⟩
  skip
  have ob82 := (ob52.step0 s56)
  refine Wv rfl (ov_load1 rfl t_agg_23 (OB.cell ob82 (j := 0) rfl)) <| WL.nil <| WQ.anyN <| WA.one (i := 0) (by kernel_rfl) rfl ?_
  have ob83 := ((ob47.step1 s51 ne32).step0 s56)
  refine Wv rfl (ov_load1 rfl t_agg_3 (OB.cell ob83 (j := 0) rfl)) <| WL.nil <| WQ.anyN <| WA.one (i := 2) (by kernel_rfl) rfl <| WL.store (vs := [vi r35.2.1]) rfl rfl rfl rfl t_size_3 (one_cons rfl one_nil) ob83 S57.sub (by simp) (ds := [vi r35.2.1]) rfl (fun w84 s85 ob86 => ?_)
  have S87 := S57.trans1 s85 (.inr g21)
  refine WL.nil <| WQ.anyN <| WA.one (i := 3) (by kernel_rfl) rfl ?_
  have ob88 := (ob82.step1 s85 (Ne.symm ne32))
  refine WL.store (vs := [vi r35.2.2]) rfl rfl rfl rfl t_size_23 (one_cons rfl one_nil) ob88 S87.sub (by simp) (ds := [vi r35.2.2]) rfl (fun w89 s90 ob91 => ?_)
  have S92 := S87.trans1 s90 (.inr g33)
  refine WL.nil <| WQ.anyN <| WA.fin (by kernel_rfl) <| WQ.seqN <| WC.ret <| WQ.thenRet <| WQ.D0ret ?_
  have ob93 := (((((((ob24.step0 s28).step0 s40).step1 s46 ne20).step1 s51 ne31).step0 s56).step1 s85 ne20).step1 s90 ne31)
  have ob94 := (ob86.step1 s90 ne32)
  refine WQ.retG (rg2 rfl (ri_cell rfl (run_loadVar1 t_agg_3 (OB.cell ob94 (j := 0) rfl))) (ri_cell rfl (run_loadVar1 t_agg_23 (OB.cell ob91 (j := 0) rfl)))) ?_
  obtain rfl := Option.some.inj HF
  exact ⟨_, rfl, h39, S92, ⟨_, _, rfl, rfl, rfl⟩, ⟨_, (rs9.mono ((s17.le).trans ((s28.le).trans ((s40.le).trans ((s46.le).trans ((s51.le).trans ((s56.le).trans ((s85.le).trans s90.le)))))))), ob93⟩⟩
 refine WC.skip ?_
 have ob208 := ((((ob23.step0 s28).step0 s40).step1 s46 ne19).step1 s51 ne30)
 have ob209 := ((((ob24.step0 s28).step0 s40).step1 s46 ne20).step1 s51 ne31)
 have ob210 := (ob47.step1 s51 ne32)
 refine WC.to [1, 4, 5, 6] _ rfl ?_
 exact J207 ⟨h39, HF, rfl, S53, Hle.refl _, ob208, ob209, ob210, ob52⟩
theorem ok_parse_Source (k : Nat) : C_parse_Source (F_parse_Source k) := s_parse_Source k

def C_ast_IsText (φ : (List St) → Option Bool) : Prop := ∀ ⦃xs1 : List St⦄ ⦃r : Bool⦄, φ xs1 = some r → ∀ ⦃w0 : World⦄ ⦃h0 : Hp⦄ ⦃v2 : Value⦄, Sub h0 w0 → RS h0 v2 xs1 →
  Calls Tryz.prog 34 #[v2] w0 fun e w1 => ∃ v, e = .returned v ∧ ∃ h1, Stp [] w0 h0 w1 h1 ∧ v = .bool r
theorem s_ast_IsText (k : Nat) : C_ast_IsText (F_ast_IsText k) := by
 intro xs1 r HF w0 h0 v2 hs0 rs3
 have S0 : Stp [] w0 h0 w0 h0 := Stp.refl hs0 _
 refine enter (n := 6) Tryz.func34 rfl Tryz.ntmps34 rfl [(0, v2)] rfl <| WC.seq <| WC.region <| Wa rfl rfl <| WL.nil <| WQ.seqN <| WC.seq <| WC.region <| WL.alloc (zs := [vi 0, vi 0]) rfl rfl t_zero_87 rfl S0.sub (fun w4 b5 hb6 s7 ob8 => ?_)
 have g9 : w0.heap.size ≤ b5 := by rw [hb6]; exact S0.size
 have S10 := S0.trans0 s7
 refine WL.nil <| WQ.seqN <| WC.seq <| WC.region <| Wm rfl rfl ?_
 obtain ⟨r11, hr12, HF⟩ := bind_some HF
 refine Wc rfl (oc_func (vs := [pt b5 0, v2, vi 1]) rfl t_ent_43) (ok_ast_Counter_Text _ hr12 S10.sub (rs3.mono (s7.le)) ob8) ?_
 rintro _ w14 ⟨h15, s16, rfl, ob17⟩
 have S18 := S10.trans s16 (in_cons (.inr g9) in_nil)
 refine Wa rfl rfl <| WL.nil <| WQ.seqN <| WC.ret <| WQ.ret1 rfl rfl ?_
 obtain rfl := Option.some.inj HF
 exact ⟨_, rfl, h15, S18, rfl⟩
theorem ok_ast_IsText (k : Nat) : C_ast_IsText (F_ast_IsText k) := s_ast_IsText k

def C_syntax_read_api_Stmt (φ : ByteArray → Option (List St × Int × Int)) : Prop := ∀ ⦃x1 : ByteArray⦄ ⦃r : List St × Int × Int⦄, φ x1 = some r → ∀ ⦃w0 : World⦄ ⦃h0 : Hp⦄, Sub h0 w0 →
  Calls Tryz.prog 32 #[.string x1, .func (.func 33) #[] #[], .func (.func 34) #[] #[]] w0 fun e w1 => ∃ v, e = .returned v ∧ ∃ h1, Stp [] w0 h0 w1 h1 ∧ (∃ u0 u1 u2 : Value, v = .tuple #[u0, u1, u2] ∧ (RS h1 u0 r.1) ∧ (u1 = .int .i64 r.2.1) ∧ (u2 = .int .i64 r.2.2))
theorem s_syntax_read_api_Stmt (k : Nat) : C_syntax_read_api_Stmt (F_syntax_read_api_Stmt k) := by
 intro x1 r HF w0 h0  hs0 
 have S0 : Stp [] w0 h0 w0 h0 := Stp.refl hs0 _
 refine enter (n := 33) Tryz.func32 rfl Tryz.ntmps32 rfl [(0, .string x1), (1, .func (.func 33) #[] #[]), (2, .func (.func 34) #[] #[])] rfl <| WC.seq <| WC.region <| WL.box (cs := [.func (.func 33) #[] #[]]) rfl rfl rfl rfl S0.sub (fun w2 b3 hb4 s5 ob6 => ?_)
 have g7 : w0.heap.size ≤ b3 := by rw [hb4]; exact S0.size
 have S8 := S0.trans0 s5
 refine Wa rfl rfl <| Wa rfl rfl <| Wa rfl rfl <| WL.nil <| WQ.seqN <| WC.seq <| WC.region <| WL.alloc (zs := [.slice none 0 0]) rfl rfl t_zero_22 rfl S8.sub (fun w9 b10 hb11 s12 ob13 => ?_)
 have ne14 : b3 ≠ b10 := ob6.ne_new hb11
 have g15 : w0.heap.size ≤ b10 := by rw [hb11]; exact S8.size
 have S16 := S8.trans0 s12
 refine Wa rfl rfl <| WL.nil <| WQ.seqN <| WC.seq <| WC.region <| Wm rfl rfl <| Wv rfl (ov_makeFunc (vs := [pt b3 0, pt b10 0]) rfl) ?_
 have ob17 := (ob6.step0 s12)
 obtain ⟨r18, hr19, HF⟩ := bind_some HF
 refine Wc rfl (oc_func (vs := [.string x1, .func (.func 55) #[] #[pt b3 0, pt b10 0]]) rfl t_ent_54) (ok_parse_Source _ hr19 S16.sub (RS.nil _) ob17 ob13 ne14) ?_
 rintro _ w21 ⟨h22, s23, ⟨_, _, rfl, rfl, rfl⟩, ⟨v24, rs25, ob26⟩⟩
 have S27 := S16.trans s23 (in_cons (.inr g15) in_nil)
 refine Wm rfl rfl <| Wv rfl (ov_extract rfl rfl) <| Wv rfl (ov_extract rfl rfl) <| Wa rfl rfl <| Wa rfl rfl <| WL.nil <| WQ.seqN <| WC.join (fun E w49 => ∃ (h48 : Hp) (x52 : Int) (xs53 : List St) (v54 : Value), syntax_read_api_Stmt_j2 k r18 x52 xs53 = some r ∧ E = [(9, pt b10 0), (10, .slice none 0 0), (11, vi r18.1), (12, vi x52)] ∧ Stp [] w0 h0 w49 h48 ∧ Hle h22 h48 ∧ RS h48 v54 xs53 ∧ OB w49 h48 b10 22 [v54]) ?_ ?_
 ·rintro E w49 ⟨h48, x52, xs53, v54, HF, rfl, S51, le50, rs55, ob56⟩
  refine WC.join (fun E w59 => ∃ (h58 : Hp), syntax_read_api_Stmt_j3 k xs53 = some r ∧ E = [(9, pt b10 0)] ∧ Stp [] w0 h0 w59 h58 ∧ Hle h48 h58 ∧ OB w59 h58 b10 22 [v54]) ?_ ?_
  ·rintro E w59 ⟨h58, HF, rfl, S61, le60, ob62⟩
   refine WC.seq <| WC.region <| Wv rfl (ov_load1 rfl t_agg_22 (OB.cell ob62 (j := 0) rfl)) <| Wa rfl rfl <| Wa rfl rfl <| Wa rfl rfl <| WL.nil <| WQ.seqN <| WC.ret <| WQ.ret3 rfl rfl rfl rfl ?_
   obtain rfl := Option.some.inj HF
   exact ⟨_, rfl, h58, S61, _, _, _, rfl, (rs55.mono (le60)), rfl, rfl⟩
  intro J63
  refine WC.seq <| WC.region <| Wm rfl rfl <| Wv rfl (ov_neq rfl rfl) <| WL.nil <| WQ.seqN <| WC.cF HF rfl (fun HF => ?_) (fun HF => ?_)
  ·refine WC.seq <| WC.region <| Wm rfl rfl <| Wm rfl rfl <| Wm rfl rfl <| Wa rfl rfl <| Wa rfl rfl <| Wa rfl rfl <| WL.nil <| WQ.seqN <| WC.ret <| WQ.thenRet <| WQ.ret3 rfl rfl rfl rfl ?_
   obtain rfl := Option.some.inj HF
   exact ⟨_, rfl, h48, S51, _, _, _, rfl, (RS.nil _), rfl, rfl⟩
  refine WC.skip <| WC.to [9] _ rfl ?_
  exact J63 ⟨h48, HF, rfl, S51, Hle.refl _, ob56⟩
 intro J64
 refine WC.join (fun E w37 => ∃ (h36 : Hp) (x40 : Bool) (xs41 : List St) (v42 : Value), syntax_read_api_Stmt_j1 k r18 x40 xs41 = some r ∧ E = [(9, pt b10 0), (10, .slice none 0 0), (11, vi r18.1), (12, vi r18.2.1), (26, .bool x40)] ∧ Stp [] w0 h0 w37 h36 ∧ Hle h22 h36 ∧ RS h36 v42 xs41 ∧ OB w37 h36 b10 22 [v42]) ?_ ?_
 ·rintro E w37 ⟨h36, x40, xs41, v42, HF, rfl, S39, le38, rs43, ob44⟩
  refine WC.cF HF rfl (fun HF => ?_) (fun HF => ?_)
  ·refine WC.region <| Wa rfl rfl <| WL.nil <| WC.to [9, 10, 11, 12] _ rfl ?_
   exact J64 ⟨h36, 5, xs41, v42, HF, rfl, S39, le38, rs43, ob44⟩
  refine WC.skip <| WC.to [9, 10, 11, 12] _ rfl ?_
  exact J64 ⟨h36, r18.2.1, xs41, v42, HF, rfl, S39, le38, rs43, ob44⟩
 intro J46
 refine WC.region <| Wm rfl rfl <| Wv rfl (ov_eql rfl rfl) <| Wm rfl rfl <| WL.sF 21 HF rfl (fun HF => ?_) (fun HF => ?_)
 ·refine Wm rfl rfl <| Wv rfl (ov_load1 rfl t_agg_22 (OB.cell ob26 (j := 0) rfl)) ?_
  obtain ⟨r29, hr30, HF⟩ := bind_some HF
  refine Wc rfl (oc_val (vs := [v24]) (caps := []) rfl rfl t_ent_34) (ok_ast_IsText _ hr30 S27.sub rs25) ?_
  rintro _ w32 ⟨h33, s34, rfl⟩
  have S35 := S27.trans0 s34
  refine Wv rfl (ov_not rfl) <| Wv rfl (ov_pickT rfl rfl) <| WL.nil ?_
  have ob47 := (ob26.step0 s34)
  refine WC.to [9, 10, 11, 12, 26] _ rfl ?_
  exact J46 ⟨h33, !r29, r18.2.2, v24, HF, rfl, S35, s34.le, (rs25.mono (s34.le)), ob47⟩
 refine Wp rfl <| Wp rfl <| Wp rfl <| Wp rfl <| Wv rfl (ov_pickF rfl rfl) <| WL.nil <| WC.to [9, 10, 11, 12, 26] _ rfl ?_
 exact J46 ⟨h22, false, r18.2.2, v24, HF, rfl, S27, Hle.refl _, rs25, ob26⟩
theorem ok_syntax_read_api_Stmt (k : Nat) : C_syntax_read_api_Stmt (F_syntax_read_api_Stmt k) := s_syntax_read_api_Stmt k

def C_syntax_Text (φ : ByteArray → Option (List St × Int × Int)) : Prop := ∀ ⦃x1 : ByteArray⦄ ⦃r : List St × Int × Int⦄, φ x1 = some r → ∀ ⦃w0 : World⦄ ⦃h0 : Hp⦄, Sub h0 w0 →
  Calls Tryz.prog 12 #[.string x1] w0 fun e w1 => ∃ v, e = .returned v ∧ ∃ h1, Stp [] w0 h0 w1 h1 ∧ (∃ u0 u1 u2 : Value, v = .tuple #[u0, u1, u2] ∧ (RS h1 u0 r.1) ∧ (u1 = .int .i64 r.2.1) ∧ (u2 = .int .i64 r.2.2))
theorem s_syntax_Text (k : Nat) : C_syntax_Text (F_syntax_Text k) := by
 intro x1 r HF w0 h0  hs0 
 have S0 : Stp [] w0 h0 w0 h0 := Stp.refl hs0 _
 refine enter (n := 10) Tryz.func12 rfl Tryz.ntmps12 rfl [(0, .string x1)] rfl <| WC.seq <| WC.region <| Wa rfl rfl <| Wa rfl rfl <| Wa rfl rfl <| WL.nil <| WQ.seqN <| WC.seq <| WC.region <| Wm rfl rfl ?_
 obtain ⟨r2, hr3, HF⟩ := bind_some HF
 refine Wc rfl (oc_func (vs := [.string x1, .func (.func 33) #[] #[], .func (.func 34) #[] #[]]) rfl t_ent_32) (ok_syntax_read_api_Stmt _ hr3 S0.sub) ?_
 rintro _ w5 ⟨h6, s7, v8, _, _, rfl, rs9, rfl, rfl⟩
 have S10 := S0.trans0 s7
 refine Wv rfl (ov_extract rfl rfl) <| Wv rfl (ov_extract rfl rfl) <| Wv rfl (ov_extract rfl rfl) <| Wa rfl rfl <| Wa rfl rfl <| Wa rfl rfl <| WL.nil <| WQ.seqN <| WC.ret <| WQ.ret3 rfl rfl rfl rfl ?_
 obtain rfl := Option.some.inj HF
 exact ⟨_, rfl, h6, S10, _, _, _, rfl, rs9, rfl, rfl⟩
theorem ok_syntax_Text (k : Nat) : C_syntax_Text (F_syntax_Text k) := s_syntax_Text k

def C_law02_awake (φ : Option Bool) : Prop := ∀ ⦃r : Bool⦄, φ  = some r → ∀ ⦃w0 : World⦄ ⦃h0 : Hp⦄, Sub h0 w0 →
  Calls Tryz.prog 16 #[] w0 fun e w1 => ∃ v, e = .returned v ∧ ∃ h1, Stp [] w0 h0 w1 h1 ∧ v = .bool r
theorem s_law02_awake (k : Nat) : C_law02_awake (F_law02_awake k) := by
 intro  r HF w0 h0  hs0 
 have S0 : Stp [] w0 h0 w0 h0 := Stp.refl hs0 _
 refine enter (n := 53) Tryz.func16 rfl Tryz.ntmps16 rfl [] rfl <| WC.seq <| WC.region <| Wa rfl rfl <| WL.nil <| WQ.seqN <| WC.seq <| WC.region ?_
 obtain ⟨r1, hr2, HF⟩ := bind_some HF
 refine Wc rfl (oc_func (vs := [.string (⟨#[120, 32, 58, 61, 32, 49, 32, 43, 32, 50, 32, 42, 32, 51, 59]⟩ : ByteArray)]) rfl t_ent_12) (ok_syntax_Text _ hr2 S0.sub) ?_
 rintro _ w4 ⟨h5, s6, v7, _, _, rfl, rs8, rfl, rfl⟩
 have S9 := S0.trans0 s6
 refine Wm rfl rfl <| Wv rfl (ov_extract rfl rfl) <| Wv rfl (ov_extract rfl rfl) <| Wv rfl (ov_extract rfl rfl) <| Wa rfl rfl <| Wa rfl rfl <| Wa rfl rfl <| WL.nil <| WQ.seqN <| WC.seq <| WC.region <| Wm rfl rfl ?_
 obtain ⟨r10, hr11, HF⟩ := bind_some HF
 refine Wc rfl (oc_func (vs := [v7]) rfl t_ent_21) (ok_syntax_Nodes _ hr11 S9.sub rs8) ?_
 rintro _ w13 ⟨h14, s15, _, _, _, rfl, rfl, rfl, rfl⟩
 have S16 := S9.trans0 s15
 refine Wm rfl rfl <| Wv rfl (ov_extract rfl rfl) <| Wv rfl (ov_extract rfl rfl) <| Wv rfl (ov_extract rfl rfl) <| Wa rfl rfl <| Wa rfl rfl <| Wa rfl rfl <| WL.nil <| WQ.seqN <| WC.seq <| WC.region ?_
 obtain ⟨r17, hr18, HF⟩ := bind_some HF
 refine Wc rfl (oc_func (vs := [.string (⟨#[105, 102, 32, 97, 32, 116, 104, 101, 110, 32, 120, 32, 58, 61, 32, 49, 59]⟩ : ByteArray)]) rfl t_ent_12) (ok_syntax_Text _ hr18 S16.sub) ?_
 rintro _ w20 ⟨h21, s22, v23, _, _, rfl, rs24, rfl, rfl⟩
 have S25 := S16.trans0 s22
 refine Wm rfl rfl <| Wv rfl (ov_extract rfl rfl) <| Wv rfl (ov_extract rfl rfl) <| Wv rfl (ov_extract rfl rfl) <| Wa rfl rfl <| Wa rfl rfl <| Wa rfl rfl <| WL.nil <| WQ.seqN <| WC.join (fun E w43 => ∃ (h42 : Hp), law02_awake_j2 k  = some r ∧ E = [] ∧ Stp [] w0 h0 w43 h42 ∧ Hle h21 h42) ?_ ?_
 ·rintro E w43 ⟨h42, HF, rfl, S45, le44⟩
  refine WC.seq <| WC.region <| Wa rfl rfl <| WL.nil <| WQ.seqN <| WC.ret <| WQ.ret1 rfl rfl ?_
  obtain rfl := Option.some.inj HF
  exact ⟨_, rfl, h42, S45, rfl⟩
 intro J46
 refine WC.join (fun E w36 => ∃ (h35 : Hp) (x39 : Bool), law02_awake_j1 k x39 = some r ∧ E = [(52, .bool x39)] ∧ Stp [] w0 h0 w36 h35 ∧ Hle h21 h35) ?_ ?_
 ·rintro E w36 ⟨h35, x39, HF, rfl, S38, le37⟩
  refine WC.cF HF rfl (fun HF => ?_) (fun HF => ?_)
  ·refine WC.seq <| WC.region <| Wa rfl rfl <| WL.nil <| WQ.seqN <| WC.ret <| WQ.thenRet <| WQ.ret1 rfl rfl ?_
   obtain rfl := Option.some.inj HF
   exact ⟨_, rfl, h35, S38, rfl⟩
  refine WC.skip <| WC.to [] _ rfl ?_
  exact J46 ⟨h35, HF, rfl, S38, le37⟩
 intro J41
 refine WC.region <| Wm rfl rfl <| Wv rfl (ov_neq rfl rfl) <| Wm rfl rfl <| WL.sF 28 HF rfl (fun HF => ?_) (fun HF => ?_)
 ·refine Wp rfl <| Wp rfl <| Wp rfl <| Wv rfl (ov_pickT rfl rfl) <| Wm rfl rfl <| Wp rfl <| Wp rfl <| Wv rfl (ov_pickT rfl rfl) <| Wm rfl rfl <| Wp rfl <| Wp rfl <| Wv rfl (ov_pickT rfl rfl) <| Wm rfl rfl <| Wp rfl <| Wp rfl <| Wv rfl (ov_pickT rfl rfl) <| Wm rfl rfl <| Wp rfl <| Wp rfl <| Wv rfl (ov_pickT rfl rfl) <| Wm rfl rfl <| Wp rfl <| Wp rfl <| Wv rfl (ov_pickT rfl rfl) <| WL.nil <| WC.to [52] _ rfl ?_
  exact J41 ⟨h21, true, HF, rfl, S25, Hle.refl _⟩
 refine Wm rfl rfl ?_
 obtain ⟨A27, c28, rfl, rs29⟩ := RS.form (rs8.mono ((s15.le).trans s22.le))
 refine Wv rfl (ov_lenL rfl t_slice_22) <| Wv rfl (ov_neq rfl rfl) <| Wv rfl (ov_pickF rfl rfl) <| Wm rfl rfl <| WL.sF 33 HF rfl (fun HF => ?_) (fun HF => ?_)
 ·refine Wp rfl <| Wp rfl <| Wv rfl (ov_pickT rfl rfl) <| Wm rfl rfl <| Wp rfl <| Wp rfl <| Wv rfl (ov_pickT rfl rfl) <| Wm rfl rfl <| Wp rfl <| Wp rfl <| Wv rfl (ov_pickT rfl rfl) <| Wm rfl rfl <| Wp rfl <| Wp rfl <| Wv rfl (ov_pickT rfl rfl) <| Wm rfl rfl <| Wp rfl <| Wp rfl <| Wv rfl (ov_pickT rfl rfl) <| WL.nil <| WC.to [52] _ rfl ?_
  exact J41 ⟨h21, true, HF, rfl, S25, Hle.refl _⟩
 refine Wm rfl rfl <| Wv rfl (ov_neq rfl rfl) <| Wv rfl (ov_pickF rfl rfl) <| Wm rfl rfl <| WL.sF 37 HF rfl (fun HF => ?_) (fun HF => ?_)
 ·refine Wp rfl <| Wp rfl <| Wv rfl (ov_pickT rfl rfl) <| Wm rfl rfl <| Wp rfl <| Wp rfl <| Wv rfl (ov_pickT rfl rfl) <| Wm rfl rfl <| Wp rfl <| Wp rfl <| Wv rfl (ov_pickT rfl rfl) <| Wm rfl rfl <| Wp rfl <| Wp rfl <| Wv rfl (ov_pickT rfl rfl) <| WL.nil <| WC.to [52] _ rfl ?_
  exact J41 ⟨h21, true, HF, rfl, S25, Hle.refl _⟩
 refine Wm rfl rfl <| Wv rfl (ov_neq rfl rfl) <| Wv rfl (ov_pickF rfl rfl) <| Wm rfl rfl <| WL.sF 41 HF rfl (fun HF => ?_) (fun HF => ?_)
 ·refine Wp rfl <| Wp rfl <| Wv rfl (ov_pickT rfl rfl) <| Wm rfl rfl <| Wp rfl <| Wp rfl <| Wv rfl (ov_pickT rfl rfl) <| Wm rfl rfl <| Wp rfl <| Wp rfl <| Wv rfl (ov_pickT rfl rfl) <| WL.nil <| WC.to [52] _ rfl ?_
  exact J41 ⟨h21, true, HF, rfl, S25, Hle.refl _⟩
 refine Wm rfl rfl <| Wv rfl (ov_neq rfl rfl) <| Wv rfl (ov_pickF rfl rfl) <| Wm rfl rfl <| WL.sF 45 HF rfl (fun HF => ?_) (fun HF => ?_)
 ·refine Wp rfl <| Wp rfl <| Wv rfl (ov_pickT rfl rfl) <| Wm rfl rfl <| Wp rfl <| Wp rfl <| Wv rfl (ov_pickT rfl rfl) <| WL.nil <| WC.to [52] _ rfl ?_
  exact J41 ⟨h21, true, HF, rfl, S25, Hle.refl _⟩
 refine Wm rfl rfl <| Wv rfl (ov_neq rfl rfl) <| Wv rfl (ov_pickF rfl rfl) <| Wm rfl rfl <| WL.sF 49 HF rfl (fun HF => ?_) (fun HF => ?_)
 ·refine Wp rfl <| Wp rfl <| Wv rfl (ov_pickT rfl rfl) <| WL.nil <| WC.to [52] _ rfl ?_
  exact J41 ⟨h21, true, HF, rfl, S25, Hle.refl _⟩
 refine Wm rfl rfl <| Wv rfl (ov_neq rfl rfl) <| Wv rfl (ov_pickF rfl rfl) <| WL.nil <| WC.to [52] _ rfl ?_
 exact J41 ⟨h21, (r17.2.1 : Int) != 17, HF, rfl, S25, Hle.refl _⟩
theorem ok_law02_awake (k : Nat) : C_law02_awake (F_law02_awake k) := s_law02_awake k

def C_law02_SyntaxWell (φ : Ex → Option Bool) : Prop := ∀ ⦃x1 : Ex⦄ ⦃r : Bool⦄, φ x1 = some r → ∀ ⦃w0 : World⦄ ⦃h0 : Hp⦄ ⦃cs2 : List Value⦄, Sub h0 w0 → Rp.R h0 x1 cs2 →
  Calls Tryz.prog 9 #[.agg cs2.toArray] w0 fun e w1 => ∃ v, e = .returned v ∧ ∃ h1, Stp [] w0 h0 w1 h1 ∧ v = .bool r
theorem s_law02_SyntaxWell (k : Nat) : C_law02_SyntaxWell (F_law02_SyntaxWell k) := by
 intro x1 r HF w0 h0 cs2 hs0 r3
 have S0 : Stp [] w0 h0 w0 h0 := Stp.refl hs0 _
 refine enter (n := 29) Tryz.func9 rfl Tryz.ntmps9 rfl [(0, .agg cs2.toArray)] rfl <| WC.seq <| WC.region ?_
 obtain ⟨v4, rfl, rs5⟩ := rp_Ex.1 r3
 refine WL.box (cs := [vi x1.op, vi x1.kind, vi x1.n, .string x1.s, .string x1.f, v4]) rfl rfl rfl rfl S0.sub (fun w6 b7 hb8 s9 ob10 => ?_)
 have g11 : w0.heap.size ≤ b7 := by rw [hb8]; exact S0.size
 have S12 := S0.trans0 s9
 refine Wa rfl rfl <| WL.nil <| WQ.seqN <| WC.join (fun E w41 => ∃ (h40 : Hp), law02_SyntaxWell_j1 k x1 = some r ∧ E = [(1, pt b7 0)] ∧ Stp [] w0 h0 w41 h40 ∧ Hle h0 h40 ∧ OB w41 h40 b7 47 [vi x1.op, vi x1.kind, vi x1.n, .string x1.s, .string x1.f, v4]) ?_ ?_
 ·rintro E w41 ⟨h40, HF, rfl, S43, le42, ob44⟩
  refine WC.seq <| WC.region <| Wv rfl (ov_loadN (cs := [vi x1.op, vi x1.kind, vi x1.n, .string x1.s, .string x1.f, v4]) rfl t_agg_47 t_size_47 (OB.cells ob44 0 rfl)) ?_
  obtain ⟨r45, hr46, HF⟩ := bind_some HF
  refine Wc rfl (oc_func (vs := [.agg #[vi x1.op, vi x1.kind, vi x1.n, .string x1.s, .string x1.f, v4]]) rfl t_ent_27) (ok_syntax_CheckExpr _ hr46 S43.sub (rp_Ex.2 ⟨_, rfl, (rs5.mono ((s9.le).trans le42))⟩)) ?_
  rintro _ w48 ⟨h49, s50, rfl⟩
  have S51 := S43.trans0 s50
  refine Wa rfl rfl <| WL.nil <| WQ.seqN <| WC.seq <| WC.region ?_
  have ob52 := (ob44.step0 s50)
  refine Wv rfl (ov_loadN (cs := [vi x1.op, vi x1.kind, vi x1.n, .string x1.s, .string x1.f, v4]) rfl t_agg_47 t_size_47 (OB.cells ob52 0 rfl)) ?_
  obtain ⟨r53, hr54, HF⟩ := bind_some HF
  refine Wc rfl (oc_func (vs := [.agg #[vi x1.op, vi x1.kind, vi x1.n, .string x1.s, .string x1.f, v4]]) rfl t_ent_28) (ok_ref02_WellExpr _ hr54 S51.sub (rp_Ex.2 ⟨_, rfl, (rs5.mono ((s9.le).trans ((le42).trans s50.le)))⟩)) ?_
  rintro _ w56 ⟨h57, s58, rfl⟩
  have S59 := S51.trans0 s58
  refine Wm rfl rfl <| WL.sF 13 HF rfl (fun HF => ?_) (fun HF => ?_)
  ·refine Wm rfl rfl <| Wv rfl (ov_eql rfl rfl) <| Wv rfl (ov_pickT rfl rfl) <| Wm rfl rfl <| WL.sF 17 HF rfl (fun HF => ?_) (fun HF => ?_)
   ·refine Wp rfl <| Wp rfl <| Wp rfl <| Wp rfl <| Wp rfl <| Wp rfl <| Wp rfl <| Wv rfl (ov_pickT rfl rfl) <| Wm rfl rfl ?_
    obtain ⟨r62, hr63, HF⟩ := bind_some HF
    refine Wc rfl (oc_func (vs := []) rfl t_ent_16) (ok_law02_awake _ hr63 S59.sub) ?_
    rintro _ w65 ⟨h66, s67, rfl⟩
    have S68 := S59.trans0 s67
    refine Wv rfl (ov_pickT rfl rfl) <| Wa rfl rfl <| WL.nil <| WQ.seqN <| WC.ret <| WQ.ret1 rfl rfl ?_
    obtain rfl := Option.some.inj HF
    exact ⟨_, rfl, h66, S68, rfl⟩
   have ob69 := (ob52.step0 s58)
   refine Wv rfl (ov_loadN (cs := [vi x1.op, vi x1.kind, vi x1.n, .string x1.s, .string x1.f, v4]) rfl t_agg_47 t_size_47 (OB.cells ob69 0 rfl)) ?_
   obtain ⟨r70, hr71, HF⟩ := bind_some HF
   refine Wc rfl (oc_func (vs := [.agg #[vi x1.op, vi x1.kind, vi x1.n, .string x1.s, .string x1.f, v4]]) rfl t_ent_28) (ok_ref02_WellExpr _ hr71 S59.sub (rp_Ex.2 ⟨_, rfl, (rs5.mono ((s9.le).trans ((le42).trans ((s50.le).trans s58.le))))⟩)) ?_
   rintro _ w73 ⟨h74, s75, rfl⟩
   have S76 := S59.trans0 s75
   refine Wv rfl (ov_not rfl) <| Wm rfl rfl <| WL.sF 21 HF rfl (fun HF => ?_) (fun HF => ?_)
   ·refine Wm rfl rfl <| Wv rfl (ov_eql rfl rfl) <| Wv rfl (ov_pickT rfl rfl) <| Wv rfl (ov_pickF rfl rfl) <| Wm rfl rfl <| WL.sF 26 HF rfl (fun HF => ?_) (fun HF => ?_)
    ·obtain ⟨r79, hr80, HF⟩ := bind_some HF
     refine Wc rfl (oc_func (vs := []) rfl t_ent_16) (ok_law02_awake _ hr80 S76.sub) ?_
     rintro _ w82 ⟨h83, s84, rfl⟩
     have S85 := S76.trans0 s84
     refine Wv rfl (ov_pickT rfl rfl) <| Wa rfl rfl <| WL.nil <| WQ.seqN <| WC.ret <| WQ.ret1 rfl rfl ?_
     obtain rfl := Option.some.inj HF
     exact ⟨_, rfl, h83, S85, rfl⟩
    refine Wp rfl <| Wv rfl (ov_pickF rfl rfl) <| Wa rfl rfl <| WL.nil <| WQ.seqN <| WC.ret <| WQ.ret1 rfl rfl ?_
    obtain rfl := Option.some.inj HF
    exact ⟨_, rfl, h74, S76, rfl⟩
   refine Wp rfl <| Wp rfl <| Wv rfl (ov_pickF rfl rfl) <| Wv rfl (ov_pickF rfl rfl) <| Wm rfl rfl <| Wp rfl <| Wv rfl (ov_pickF rfl rfl) <| Wa rfl rfl <| WL.nil <| WQ.seqN <| WC.ret <| WQ.ret1 rfl rfl ?_
   obtain rfl := Option.some.inj HF
   exact ⟨_, rfl, h74, S76, rfl⟩
  refine Wp rfl <| Wp rfl <| Wv rfl (ov_pickF rfl rfl) <| Wm rfl rfl ?_
  have ob86 := (ob52.step0 s58)
  refine Wv rfl (ov_loadN (cs := [vi x1.op, vi x1.kind, vi x1.n, .string x1.s, .string x1.f, v4]) rfl t_agg_47 t_size_47 (OB.cells ob86 0 rfl)) ?_
  obtain ⟨r87, hr88, HF⟩ := bind_some HF
  refine Wc rfl (oc_func (vs := [.agg #[vi x1.op, vi x1.kind, vi x1.n, .string x1.s, .string x1.f, v4]]) rfl t_ent_28) (ok_ref02_WellExpr _ hr88 S59.sub (rp_Ex.2 ⟨_, rfl, (rs5.mono ((s9.le).trans ((le42).trans ((s50.le).trans s58.le))))⟩)) ?_
  rintro _ w90 ⟨h91, s92, rfl⟩
  have S93 := S59.trans0 s92
  refine Wv rfl (ov_not rfl) <| Wm rfl rfl <| WL.sF 21 HF rfl (fun HF => ?_) (fun HF => ?_)
  ·refine Wm rfl rfl <| Wv rfl (ov_eql rfl rfl) <| Wv rfl (ov_pickT rfl rfl) <| Wv rfl (ov_pickF rfl rfl) <| Wm rfl rfl <| WL.sF 26 HF rfl (fun HF => ?_) (fun HF => ?_)
   ·obtain ⟨r96, hr97, HF⟩ := bind_some HF
    refine Wc rfl (oc_func (vs := []) rfl t_ent_16) (ok_law02_awake _ hr97 S93.sub) ?_
    rintro _ w99 ⟨h100, s101, rfl⟩
    have S102 := S93.trans0 s101
    refine Wv rfl (ov_pickT rfl rfl) <| Wa rfl rfl <| WL.nil <| WQ.seqN <| WC.ret <| WQ.ret1 rfl rfl ?_
    obtain rfl := Option.some.inj HF
    exact ⟨_, rfl, h100, S102, rfl⟩
   refine Wp rfl <| Wv rfl (ov_pickF rfl rfl) <| Wa rfl rfl <| WL.nil <| WQ.seqN <| WC.ret <| WQ.ret1 rfl rfl ?_
   obtain rfl := Option.some.inj HF
   exact ⟨_, rfl, h91, S93, rfl⟩
  refine Wp rfl <| Wp rfl <| Wv rfl (ov_pickF rfl rfl) <| Wv rfl (ov_pickF rfl rfl) <| Wm rfl rfl <| Wp rfl <| Wv rfl (ov_pickF rfl rfl) <| Wa rfl rfl <| WL.nil <| WQ.seqN <| WC.ret <| WQ.ret1 rfl rfl ?_
  obtain rfl := Option.some.inj HF
  exact ⟨_, rfl, h91, S93, rfl⟩
 intro J103
 refine WC.seq <| WC.region <| Wv rfl (ov_loadN (cs := [vi x1.op, vi x1.kind, vi x1.n, .string x1.s, .string x1.f, v4]) rfl t_agg_47 t_size_47 (OB.cells ob10 0 rfl)) <| WL.buildSliceD (us := [.agg #[vi x1.op, vi x1.kind, vi x1.n, .string x1.s, .string x1.f, v4]]) (cs := [vi x1.op, vi x1.kind, vi x1.n, .string x1.s, .string x1.f, v4]) rfl rfl rfl t_slice_45 t_size_47 t_zero_47 rfl (cl_cons rfl cl_nil) rfl rfl rfl S12.sub (fun w13 h14 b15 hb16 s17 hk18 hc19 => ?_)
 have S20 := S12.trans0 s17
 have rs21 : RS h14 (sl b15 0 1 1) ([(Ex.mk x1.op x1.kind x1.n x1.s x1.f x1.args)] : List Ex) := RS.litL _ [[vi x1.op, vi x1.kind, vi x1.n, .string x1.s, .string x1.f, v4]] rfl rfl hc19 ⟨(rp_Ex.2 ⟨_, rfl, (rs5.mono ((s9.le).trans s17.le))⟩), trivial⟩
 have ow22 := Own.lit (base := w0.heap.size) (sz := 6) (m := 1) hk18 hc19 (by rw [hb16]; exact S12.size) rfl (by decide)
 obtain ⟨r23, hr24, HF⟩ := bind_some HF
 refine Wc rfl (oc_func (vs := [sl b15 0 1 1, vi 0]) rfl t_ent_26) (ok_law02_weighExprs _ hr24 S20.sub rs21) ?_
 have ob29 := (ob10.step0 s17)
 rintro _ w26 ⟨h27, s28, rfl⟩
 have S30 := S20.trans0 s28
 refine Wv rfl (ov_gtr rfl rfl) <| WL.nil <| WQ.seqN <| WC.cF HF rfl (fun HF => ?_) (fun HF => ?_)
 ·refine WC.seq <| WC.region ?_
  obtain ⟨r32, hr33, HF⟩ := bind_some HF
  refine Wc rfl (oc_func (vs := []) rfl t_ent_16) (ok_law02_awake _ hr33 S30.sub) ?_
  have ob38 := (ob29.step0 s28)
  rintro _ w35 ⟨h36, s37, rfl⟩
  have S39 := S30.trans0 s37
  refine Wa rfl rfl <| WL.nil <| WQ.seqN <| WC.ret <| WQ.thenRet <| WQ.ret1 rfl rfl ?_
  obtain rfl := Option.some.inj HF
  exact ⟨_, rfl, h36, S39, rfl⟩
 refine WC.skip ?_
 have ob104 := (ob29.step0 s28)
 refine WC.to [1] _ rfl ?_
 exact J103 ⟨h27, HF, rfl, S30, (s17.le).trans s28.le, ob104⟩
theorem ok_law02_SyntaxWell (k : Nat) : C_law02_SyntaxWell (F_law02_SyntaxWell k) := s_law02_SyntaxWell k
end Go.Proofs.YtkodnhngllfemaaGreatDoor
