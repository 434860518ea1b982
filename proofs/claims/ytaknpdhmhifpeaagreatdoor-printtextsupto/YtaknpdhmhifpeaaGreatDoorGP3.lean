import Derived.Test.YtaknpdhmhifpeaaGreatDoorE0
import Derived.Test.YtaknpdhmhifpeaaGreatDoorGP2
set_option linter.unusedVariables false
set_option linter.unusedSimpArgs false
set_option maxRecDepth 20000
set_option maxHeartbeats 4000000
namespace Go.Proofs.YtaknpdhmhifpeaaGreatDoor
open Go
def Ze2 (φ : (List St) → Option Bool) : Prop := ∀ ⦃xs1 : List St⦄ ⦃r : Bool⦄, φ xs1 = some r → ∀ ⦃w0 : World⦄ ⦃h0 : Hp⦄ ⦃v2 : Value⦄, Sub h0 w0 → RS h0 v2 xs1 →
  Calls Tryz.prog 3 #[v2] w0 fun e w1 => ∃ v, e = .returned v ∧ ∃ h1, Stp [] w0 h0 w1 h1 ∧ v = .bool r
theorem s_law03_PrintTexts (k : Nat) : Ze2 (Z6i k) := by
 intro xs1 r HF w0 h0 v2 hs0 rs3
 have S0 : Stp [] w0 h0 w0 h0 := Stp.refl hs0 _
 refine Z66 (n := 62) Tryz.func3 rfl Tryz.ntmps3 rfl [(0, v2)] rfl <| Za <| Z0 <| Wa rfl rfl <| Z7 <| Z5 <| Z04 (fun E w20 => ∃ (h19 : Hp), Z7o k xs1 = some r ∧ E = [(0, v2)] ∧ Stp [] w0 h0 w20 h19 ∧ Hle h0 h19) ?_ ?_
 ·rintro E w20 ⟨h19, HF, rfl, S22, le21⟩
  refine Za <| Z0 <| Wm rfl rfl ?_
  obtain ⟨r23, hr24, HF⟩ := Z6 HF
  refine Wc rfl (Zi (vs := [v2]) rfl t_ent_8) (ok_print_Text _ hr24 S22.sub (rs3.mono (le21))) ?_
  rintro _ w26 ⟨h27, s28, _, _, rfl, rfl, rfl⟩
  have S29 := S22.trans0 s28
  refine Wm rfl rfl <| Wv rfl (Z1a rfl rfl) <| Wv rfl (Z1a rfl rfl) <| Wa rfl rfl <| Wa rfl rfl <| Z7 <| Z5 <| Za <| Z0 <| Wm rfl rfl ?_
  obtain ⟨r30, hr31, HF⟩ := Z6 HF
  refine Wc rfl (Zi (vs := [v2]) rfl t_ent_9) (ok_print_Short _ hr31 S29.sub (rs3.mono ((le21).trans s28.le))) ?_
  rintro _ w33 ⟨h34, s35, _, _, rfl, rfl, rfl⟩
  have S36 := S29.trans0 s35
  refine Wm rfl rfl <| Wv rfl (Z1a rfl rfl) <| Wv rfl (Z1a rfl rfl) <| Wa rfl rfl <| Wa rfl rfl <| Z7 <| Z5 <| Z04 (fun E w57 => ∃ (h56 : Hp), Za2 k xs1 r23 r30 = some r ∧ E = [(0, v2), (3, .string r23.1), (4, vi r23.2), (5, .string r30.1), (6, vi r30.2)] ∧ Stp [] w0 h0 w57 h56 ∧ Hle h34 h56) ?_ ?_
  ·rintro E w57 ⟨h56, HF, rfl, S59, le58⟩
   refine Za <| Z0 <| Wm rfl rfl <| Wm rfl rfl ?_
   obtain ⟨r60, hr61, HF⟩ := Z6 HF
   refine Wc rfl (Zi (vs := [v2]) rfl t_ent_11) (ok_ref03_Text _ hr61 S59.sub (rs3.mono ((le21).trans ((s28.le).trans ((s35.le).trans le58))))) ?_
   rintro _ w63 ⟨h64, s65, rfl⟩
   have S66 := S59.trans0 s65
   refine Wv rfl (Z0g rfl rfl) <| Wm rfl rfl <| Z2m 45 HF rfl (fun HF => ?_) (fun HF => ?_)
   ·refine Wm rfl rfl <| Wv rfl (Z0y rfl rfl) <| Wv rfl (Zh rfl rfl) <| Wm rfl rfl <| Z2m 49 HF rfl (fun HF => ?_) (fun HF => ?_)
    ·refine Wm rfl rfl <| Wm rfl rfl ?_
     obtain ⟨r69, hr70, HF⟩ := Z6 HF
     refine Wc rfl (Zi (vs := [v2]) rfl t_ent_12) (ok_ref03_Short _ hr70 S66.sub (rs3.mono ((le21).trans ((s28.le).trans ((s35.le).trans ((le58).trans s65.le)))))) ?_
     rintro _ w72 ⟨h73, s74, rfl⟩
     have S75 := S66.trans0 s74
     refine Wv rfl (Z0g rfl rfl) <| Wv rfl (Zh rfl rfl) <| Wm rfl rfl <| Z2m 55 HF rfl (fun HF => ?_) (fun HF => ?_)
     ·refine Wm rfl rfl <| Wv rfl (Z0y rfl rfl) <| Wv rfl (Zh rfl rfl) <| Wm rfl rfl <| Z2m 59 HF rfl (fun HF => ?_) (fun HF => ?_)
      ·obtain ⟨r78, hr79, HF⟩ := Z6 HF
       refine Wc rfl (Zi (vs := []) rfl t_ent_7) (Zev _ hr79 S75.sub) ?_
       rintro _ w81 ⟨h82, s83, rfl⟩
       have S84 := S75.trans0 s83
       refine Wv rfl (Zh rfl rfl) <| Wa rfl rfl <| Z7 <| Z5 <| Z09 <| Zt rfl rfl ?_
       obtain rfl := Option.some.inj HF
       exact ⟨_, rfl, h82, S84, rfl⟩
      refine Wp rfl <| Wv rfl (Zf rfl rfl) <| Wa rfl rfl <| Z7 <| Z5 <| Z09 <| Zt rfl rfl ?_
      obtain rfl := Option.some.inj HF
      exact ⟨_, rfl, h73, S75, rfl⟩
     refine Wp rfl <| Wp rfl <| Wv rfl (Zf rfl rfl) <| Wm rfl rfl <| Wp rfl <| Wv rfl (Zf rfl rfl) <| Wa rfl rfl <| Z7 <| Z5 <| Z09 <| Zt rfl rfl ?_
     obtain rfl := Option.some.inj HF
     exact ⟨_, rfl, h73, S75, rfl⟩
    refine Wp rfl <| Wp rfl <| Wp rfl <| Wp rfl <| Wv rfl (Zf rfl rfl) <| Wm rfl rfl <| Wp rfl <| Wp rfl <| Wv rfl (Zf rfl rfl) <| Wm rfl rfl <| Wp rfl <| Wv rfl (Zf rfl rfl) <| Wa rfl rfl <| Z7 <| Z5 <| Z09 <| Zt rfl rfl ?_
    obtain rfl := Option.some.inj HF
    exact ⟨_, rfl, h64, S66, rfl⟩
   refine Wp rfl <| Wp rfl <| Wv rfl (Zf rfl rfl) <| Wm rfl rfl <| Wp rfl <| Wp rfl <| Wp rfl <| Wp rfl <| Wv rfl (Zf rfl rfl) <| Wm rfl rfl <| Wp rfl <| Wp rfl <| Wv rfl (Zf rfl rfl) <| Wm rfl rfl <| Wp rfl <| Wv rfl (Zf rfl rfl) <| Wa rfl rfl <| Z7 <| Z5 <| Z09 <| Zt rfl rfl ?_
   obtain rfl := Option.some.inj HF
   exact ⟨_, rfl, h64, S66, rfl⟩
  intro J85
  refine Za <| Z0 <| Wm rfl rfl ?_
  obtain ⟨r37, hr38, HF⟩ := Z6 HF
  refine Wc rfl (Zi (vs := [v2]) rfl t_ent_10) (ok_ref02_Well _ hr38 S36.sub (rs3.mono ((le21).trans ((s28.le).trans s35.le)))) ?_
  rintro _ w40 ⟨h41, s42, rfl⟩
  have S43 := S36.trans0 s42
  refine Wv rfl (Z4o rfl) <| Z7 <| Z5 <| Z12 HF rfl (fun HF => ?_) (fun HF => ?_)
  ·refine Za <| Z0 <| Wm rfl rfl <| Wv rfl (Z0g rfl rfl) <| Wm rfl rfl <| Z2m 26 HF rfl (fun HF => ?_) (fun HF => ?_)
   ·refine Wm rfl rfl <| Wv rfl (Z0y rfl rfl) <| Wv rfl (Zh rfl rfl) <| Wm rfl rfl <| Z2m 30 HF rfl (fun HF => ?_) (fun HF => ?_)
    ·refine Wm rfl rfl <| Wv rfl (Z0g rfl rfl) <| Wv rfl (Zh rfl rfl) <| Wm rfl rfl <| Z2m 34 HF rfl (fun HF => ?_) (fun HF => ?_)
     ·refine Wm rfl rfl <| Wv rfl (Z0y rfl rfl) <| Wv rfl (Zh rfl rfl) <| Wm rfl rfl <| Z2m 38 HF rfl (fun HF => ?_) (fun HF => ?_)
      ·obtain ⟨r49, hr50, HF⟩ := Z6 HF
       refine Wc rfl (Zi (vs := []) rfl t_ent_7) (Zev _ hr50 S43.sub) ?_
       rintro _ w52 ⟨h53, s54, rfl⟩
       have S55 := S43.trans0 s54
       refine Wv rfl (Zh rfl rfl) <| Wa rfl rfl <| Z7 <| Z5 <| Z09 <| Zp <| Zt rfl rfl ?_
       obtain rfl := Option.some.inj HF
       exact ⟨_, rfl, h53, S55, rfl⟩
      refine Wp rfl <| Wv rfl (Zf rfl rfl) <| Wa rfl rfl <| Z7 <| Z5 <| Z09 <| Zp <| Zt rfl rfl ?_
      obtain rfl := Option.some.inj HF
      exact ⟨_, rfl, h41, S43, rfl⟩
     refine Wp rfl <| Wp rfl <| Wv rfl (Zf rfl rfl) <| Wm rfl rfl <| Wp rfl <| Wv rfl (Zf rfl rfl) <| Wa rfl rfl <| Z7 <| Z5 <| Z09 <| Zp <| Zt rfl rfl ?_
     obtain rfl := Option.some.inj HF
     exact ⟨_, rfl, h41, S43, rfl⟩
    refine Wp rfl <| Wp rfl <| Wv rfl (Zf rfl rfl) <| Wm rfl rfl <| Wp rfl <| Wp rfl <| Wv rfl (Zf rfl rfl) <| Wm rfl rfl <| Wp rfl <| Wv rfl (Zf rfl rfl) <| Wa rfl rfl <| Z7 <| Z5 <| Z09 <| Zp <| Zt rfl rfl ?_
    obtain rfl := Option.some.inj HF
    exact ⟨_, rfl, h41, S43, rfl⟩
   refine Wp rfl <| Wp rfl <| Wv rfl (Zf rfl rfl) <| Wm rfl rfl <| Wp rfl <| Wp rfl <| Wv rfl (Zf rfl rfl) <| Wm rfl rfl <| Wp rfl <| Wp rfl <| Wv rfl (Zf rfl rfl) <| Wm rfl rfl <| Wp rfl <| Wv rfl (Zf rfl rfl) <| Wa rfl rfl <| Z7 <| Z5 <| Z09 <| Zp <| Zt rfl rfl ?_
   obtain rfl := Option.some.inj HF
   exact ⟨_, rfl, h41, S43, rfl⟩
  refine Zm <| Z06 [0, 3, 4, 5, 6] _ rfl ?_
  exact J85 ⟨h41, HF, rfl, S43, s42.le⟩
 intro J86
 refine Za <| Z0 <| Wm rfl rfl ?_
 obtain ⟨r4, hr5, HF⟩ := Z6 HF
 refine Wc rfl (Zi (vs := [v2, vi 0]) rfl t_ent_6) (ok_law03_small _ hr5 S0.sub rs3) ?_
 rintro _ w7 ⟨h8, s9, rfl⟩
 have S10 := S0.trans0 s9
 refine Wv rfl (Zao rfl rfl) <| Z7 <| Z5 <| Z12 HF rfl (fun HF => ?_) (fun HF => ?_)
 ·refine Za <| Z0 ?_
  obtain ⟨r12, hr13, HF⟩ := Z6 HF
  refine Wc rfl (Zi (vs := []) rfl t_ent_7) (Zev _ hr13 S10.sub) ?_
  rintro _ w15 ⟨h16, s17, rfl⟩
  have S18 := S10.trans0 s17
  refine Wa rfl rfl <| Z7 <| Z5 <| Z09 <| Zp <| Zt rfl rfl ?_
  obtain rfl := Option.some.inj HF
  exact ⟨_, rfl, h16, S18, rfl⟩
 refine Zm <| Z06 [0] _ rfl ?_
 exact J86 ⟨h8, HF, rfl, S10, s9.le⟩
theorem ok_law03_PrintTexts (k : Nat) : Ze2 (Z6i k) := s_law03_PrintTexts k
end Go.Proofs.YtaknpdhmhifpeaaGreatDoor
