import Derived.Test.YtaknpdhmhifpeaaGreatDoorE0
import Derived.Test.YtaknpdhmhifpeaaGreatDoorGP2
set_option linter.unusedVariables false
set_option linter.unusedSimpArgs false
namespace Go.Proofs.YtaknpdhmhifpeaaGreatDoor
open Go
def C_ref02_Size_Expr (φ : Int → Int → Bool → Ex → Int → Option (Int × Int × Bool)) : Prop := ∀ ⦃x3 : Int⦄ ⦃x4 : Int⦄ ⦃x5 : Bool⦄ ⦃x7 : Ex⦄ ⦃x10 : Int⦄ ⦃r : Int × Int × Bool⦄, φ x3 x4 x5 x7 x10 = some r → ∀ ⦃w0 : World⦄ ⦃h0 : Hp⦄ ⦃b1 : Nat⦄ ⦃T2 : Nat⦄ ⦃cs8 : List Value⦄, Sub h0 w0 → Rp.R h0 x7 cs8 → OB w0 h0 b1 T2 [.int .i64 x3, .int .i64 x4, .bool x5] →
  Calls Tryz.prog 28 #[.pointer (some ⟨b1, 0, none⟩), .agg cs8.toArray, .int .i64 x10] w0 fun e w1 => ∃ v, e = .returned v ∧ ∃ h1, Stp [b1] w0 h0 w1 h1 ∧ v = .tuple #[] ∧ (OB w1 h1 b1 T2 [.int .i64 r.1, .int .i64 r.2.1, .bool r.2.2])
def C_ref02_Size_Exprs (φ : Int → Int → Bool → (List Ex) → Int → Option (Int × Int × Bool)) : Prop := ∀ ⦃x3 : Int⦄ ⦃x4 : Int⦄ ⦃x5 : Bool⦄ ⦃xs7 : List Ex⦄ ⦃x10 : Int⦄ ⦃r : Int × Int × Bool⦄, φ x3 x4 x5 xs7 x10 = some r → ∀ ⦃w0 : World⦄ ⦃h0 : Hp⦄ ⦃b1 : Nat⦄ ⦃T2 : Nat⦄ ⦃v8 : Value⦄, Sub h0 w0 → RS h0 v8 xs7 → OB w0 h0 b1 T2 [.int .i64 x3, .int .i64 x4, .bool x5] →
  Calls Tryz.prog 61 #[.pointer (some ⟨b1, 0, none⟩), v8, .int .i64 x10] w0 fun e w1 => ∃ v, e = .returned v ∧ ∃ h1, Stp [b1] w0 h0 w1 h1 ∧ v = .tuple #[] ∧ (OB w1 h1 b1 T2 [.int .i64 r.1, .int .i64 r.2.1, .bool r.2.2])
set_option maxRecDepth 20000 in
set_option maxHeartbeats 4000000 in
theorem s_ref02_Size_Expr (k : Nat) (IH : ∀ j, j ≤ k → C_ref02_Size_Expr (tie_ref02_Size_Expr j).ref02_Size_Expr ∧ C_ref02_Size_Exprs (tie_ref02_Size_Expr j).ref02_Size_Exprs) : C_ref02_Size_Expr (m_ref02_Size_Expr k (tie_ref02_Size_Expr k)) := by
 intro x3 x4 x5 x7 x10 r HF w0 h0 b1 T2 cs8 hs0 r9 ob6
 have S0 : Stp [b1] w0 h0 w0 h0 := Stp.refl hs0 _
 have lt11 : b1 < w0.heap.size := OB.lt ob6
 refine enter (n := 150) Tryz.func28 rfl Tryz.ntmps28 rfl [(0, .pointer (some ⟨b1, 0, none⟩)), (1, .agg cs8.toArray), (2, .int .i64 x10)] rfl <| WC.seq <| WC.region ?_
 obtain ⟨v12, rfl, rs13⟩ := rp_Ex.1 r9
 refine WL.box (cs := [.int .i64 x7.op, .int .i64 x7.kind, .int .i64 x7.n, .string x7.s, .string x7.f, v12]) rfl rfl rfl rfl S0.sub (fun w14 b15 hb16 s17 ob18 => ?_)
 have ne19 : b1 ≠ b15 := ob6.ne_new hb16
 have g20 : w0.heap.size ≤ b15 := by rw [hb16]; exact S0.size
 have S21 := S0.trans0 s17
 refine WL.nil <| WQ.seqN <| WC.join (fun E w25 => ∃ (h24 : Hp), ref02_Size_Expr_j1 k (tie_ref02_Size_Expr k) x3 x4 x5 x7 x10 = some r ∧ E = [(0, .pointer (some ⟨b1, 0, none⟩)), (2, .int .i64 x10), (4, .pointer (some ⟨b15, 0, none⟩))] ∧ Stp [b1] w0 h0 w25 h24 ∧ Hle h0 h24 ∧ OB w25 h24 b1 T2 [.int .i64 x3, .int .i64 x4, .bool x5] ∧ OB w25 h24 b15 32 [.int .i64 x7.op, .int .i64 x7.kind, .int .i64 x7.n, .string x7.s, .string x7.f, v12]) ?_ ?_
 ·rintro E w25 ⟨h24, HF, rfl, S27, le26, ob28, ob29⟩
  refine WC.seq <| WC.region <| WL.val rfl rfl rfl (ov_move rfl) <| WL.val rfl rfl rfl (ov_move rfl) ?_
  obtain ⟨r30, hr31, HF⟩ := bind_some HF
  refine WL.call rfl rfl rfl (oc_func (vs := [.pointer (some ⟨b1, 0, none⟩), .int .i64 x10]) rfl t_ent_58) (ok_ref02_Size_Node _ hr31 S27.sub ob28) ?_
  rintro v32 w33 ⟨h34, s35, rfl, ob36⟩
  have S37 := S27.trans s35 (in_cons (.inl (by simp)) in_nil)
  refine WL.nil <| WQ.seqN <| WC.seq <| WC.region <| WL.val rfl rfl rfl (ov_assign rfl) <| WL.nil <| WQ.seqN <| WC.seq <| WC.region <| WL.val rfl rfl rfl (ov_assign rfl) <| WL.val rfl rfl rfl (ov_assign rfl) <| WL.nil <| WQ.seqN <| WC.join (fun E w128 => ∃ (h127 : Hp) (x131 : Int) (x132 : Bool) (x133 : Bool) (x134 : Bool), ref02_Size_Expr_j3 k (tie_ref02_Size_Expr k) x7 x10 r30 x131 x132 x133 x134 = some r ∧ E = [(0, .pointer (some ⟨b1, 0, none⟩)), (2, .int .i64 x10), (4, .pointer (some ⟨b15, 0, none⟩)), (6, .int .i64 x131), (7, .bool x132), (8, .bool x133)] ∧ Stp [b1] w0 h0 w128 h127 ∧ Hle h34 h127 ∧ OB w128 h127 b1 T2 [.int .i64 r30.1, .int .i64 r30.2.1, .bool x134] ∧ OB w128 h127 b15 32 [.int .i64 x7.op, .int .i64 x7.kind, .int .i64 x7.n, .string x7.s, .string x7.f, v12]) ?_ ?_
  ·rintro E w128 ⟨h127, x131, x132, x133, x134, HF, rfl, S130, le129, ob135, ob136⟩
   refine WC.join (fun E w176 => ∃ (h175 : Hp) (x179 : Bool), ref02_Size_Expr_j4 k (tie_ref02_Size_Expr k) x7 x10 r30 x132 x133 x179 = some r ∧ E = [(0, .pointer (some ⟨b1, 0, none⟩)), (2, .int .i64 x10), (4, .pointer (some ⟨b15, 0, none⟩)), (7, .bool x132), (8, .bool x133)] ∧ Stp [b1] w0 h0 w176 h175 ∧ Hle h127 h175 ∧ OB w176 h175 b1 T2 [.int .i64 r30.1, .int .i64 r30.2.1, .bool x179] ∧ OB w176 h175 b15 32 [.int .i64 x7.op, .int .i64 x7.kind, .int .i64 x7.n, .string x7.s, .string x7.f, v12]) ?_ ?_
   ·rintro E w176 ⟨h175, x179, HF, rfl, S178, le177, ob180, ob181⟩
    refine WC.join (fun E w238 => ∃ (h237 : Hp) (x241 : Bool), ref02_Size_Expr_j5 k (tie_ref02_Size_Expr k) x7 x10 r30 x133 x241 = some r ∧ E = [(0, .pointer (some ⟨b1, 0, none⟩)), (2, .int .i64 x10), (4, .pointer (some ⟨b15, 0, none⟩)), (8, .bool x133)] ∧ Stp [b1] w0 h0 w238 h237 ∧ Hle h175 h237 ∧ OB w238 h237 b1 T2 [.int .i64 r30.1, .int .i64 r30.2.1, .bool x241] ∧ OB w238 h237 b15 32 [.int .i64 x7.op, .int .i64 x7.kind, .int .i64 x7.n, .string x7.s, .string x7.f, v12]) ?_ ?_
    ·rintro E w238 ⟨h237, x241, HF, rfl, S240, le239, ob242, ob243⟩
     refine WC.join (fun E w300 => ∃ (h299 : Hp) (x303 : Bool), ref02_Size_Expr_j6 k (tie_ref02_Size_Expr k) x7 x10 r30 x303 = some r ∧ E = [(0, .pointer (some ⟨b1, 0, none⟩)), (2, .int .i64 x10), (4, .pointer (some ⟨b15, 0, none⟩))] ∧ Stp [b1] w0 h0 w300 h299 ∧ Hle h237 h299 ∧ OB w300 h299 b1 T2 [.int .i64 r30.1, .int .i64 r30.2.1, .bool x303] ∧ OB w300 h299 b15 32 [.int .i64 x7.op, .int .i64 x7.kind, .int .i64 x7.n, .string x7.s, .string x7.f, v12]) ?_ ?_
     ·rintro E w300 ⟨h299, x303, HF, rfl, S302, le301, ob304, ob305⟩
      refine WC.region <| WL.val rfl rfl rfl (ov_move rfl) <| WL.val rfl rfl rfl (ov_fieldAddr rfl t_field_32_5) <| WL.val rfl rfl rfl (ov_load1 rfl t_agg_30 (OB.cell ob305 (j := 5) rfl)) <| WL.val rfl rfl rfl (ov_move rfl) <| WL.val rfl rfl rfl (ov_add rfl rfl) ?_
      obtain ⟨r306, hr307, HF⟩ := bind_some HF
      refine WL.call rfl rfl rfl (oc_func (vs := [.pointer (some ⟨b1, 0, none⟩), v12, .int .i64 (IntKind.i64.wrap (x10 + 1))]) rfl t_ent_61) ((IH _ (Nat.le_refl _)).2 hr307 S302.sub (rs13.mono ((s17.le).trans ((le26).trans ((s35.le).trans ((le129).trans ((le177).trans ((le239).trans le301))))))) ob304) ?_
      rintro v308 w309 ⟨h310, s311, rfl, ob312⟩
      have S313 := S302.trans s311 (in_cons (.inl (by simp)) in_nil)
      refine WL.nil <| WQ.end0 rfl ?_
      obtain rfl := Option.some.inj HF
      exact ⟨_, rfl, h310, S313, rfl, ob312⟩
     ·intro J314
      refine WC.region <| WL.val rfl rfl rfl (ov_move rfl) <| WL.val rfl rfl rfl (ov_move rfl) <| WL.val rfl rfl rfl (ov_move rfl) <| WL.split 129 (b := x133) rfl (fun hb244 => ?_) (fun hb244 => ?_)
      ·replace HF := bif_t hb244 HF
       refine WL.val rfl rfl rfl (ov_fieldAddr rfl t_field_32_4) <| WL.val rfl rfl rfl (ov_load1 rfl t_agg_9 (OB.cell ob243 (j := 4) rfl)) ?_
       obtain ⟨r245, hr246, HF⟩ := bind_some HF
       refine WL.call rfl rfl rfl (oc_func (vs := [.string x7.f]) rfl t_ent_60) (ok_ref01_IsName _ hr246 S240.sub) ?_
       rintro _ w248 ⟨h249, s250, rfl⟩
       have S251 := S240.trans0 s250
       refine WL.val rfl rfl rfl (ov_pickT rfl rfl) <| WL.val rfl rfl rfl (ov_move rfl) <| WL.split 134 (b := r245) rfl (fun hb252 => ?_) (fun hb252 => ?_)
       ·replace HF := bif_t hb252 HF
        refine WL.pass rfl rfl rfl <| WL.pass rfl rfl rfl <| WL.pass rfl rfl rfl <| WL.pass rfl rfl rfl <| WL.pass rfl rfl rfl <| WL.pass rfl rfl rfl <| WL.pass rfl rfl rfl <| WL.val rfl rfl rfl (ov_pickT rfl rfl) ?_
        have ob253 := (ob242.step0 s250)
        obtain ⟨r254, hr255, HF⟩ := bind_some HF
        refine WL.call rfl rfl rfl (oc_func (vs := [.pointer (some ⟨b1, 0, none⟩), .bool true]) rfl t_ent_59) (ok_ref02_Size_Right _ hr255 S251.sub ob253) ?_
        rintro v256 w257 ⟨h258, s259, rfl, ob260⟩
        have S261 := S251.trans s259 (in_cons (.inl (by simp)) in_nil)
        refine WL.nil ?_
        have ob315 := ((ob243.step0 s250).step1 s259 (Ne.symm ne19))
        refine WC.to [0, 2, 4] [(0, .pointer (some ⟨b1, 0, none⟩)), (2, .int .i64 x10), (4, .pointer (some ⟨b15, 0, none⟩))] rfl ?_
        exact J314 ⟨h258, r254, HF, rfl, S261, (s250.le).trans s259.le, ob260, ob315⟩
       ·replace HF := bif_f hb252 HF
        refine WL.val rfl rfl rfl (ov_move rfl) <| WL.val rfl rfl rfl (ov_not rfl) <| WL.val rfl rfl rfl (ov_move rfl) <| WL.split 137 (b := !x133) rfl (fun hb262 => ?_) (fun hb262 => ?_)
        ·replace HF := bif_t hb262 HF
         refine WL.val rfl rfl rfl (ov_fieldAddr rfl t_field_32_4) ?_
         have ob263 := (ob243.step0 s250)
         refine WL.val rfl rfl rfl (ov_load1 rfl t_agg_9 (OB.cell ob263 (j := 4) rfl)) <| WL.val rfl rfl rfl (ov_eqlS rfl rfl) <| WL.val rfl rfl rfl (ov_pickT rfl rfl) <| WL.val rfl rfl rfl (ov_pickF rfl rfl) ?_
         have ob264 := (ob242.step0 s250)
         obtain ⟨r265, hr266, HF⟩ := bind_some HF
         refine WL.call rfl rfl rfl (oc_func (vs := [.pointer (some ⟨b1, 0, none⟩), .bool (bEq x7.f (⟨#[]⟩ : ByteArray))]) rfl t_ent_59) (ok_ref02_Size_Right _ hr266 S251.sub ob264) ?_
         rintro v267 w268 ⟨h269, s270, rfl, ob271⟩
         have S272 := S251.trans s270 (in_cons (.inl (by simp)) in_nil)
         refine WL.nil ?_
         have ob316 := (ob263.step1 s270 (Ne.symm ne19))
         refine WC.to [0, 2, 4] [(0, .pointer (some ⟨b1, 0, none⟩)), (2, .int .i64 x10), (4, .pointer (some ⟨b15, 0, none⟩))] rfl ?_
         exact J314 ⟨h269, r265, HF, rfl, S272, (s250.le).trans s270.le, ob271, ob316⟩
        ·replace HF := bif_f hb262 HF
         refine WL.pass rfl rfl rfl <| WL.pass rfl rfl rfl <| WL.pass rfl rfl rfl <| WL.val rfl rfl rfl (ov_pickF rfl rfl) <| WL.val rfl rfl rfl (ov_pickF rfl rfl) ?_
         have ob273 := (ob242.step0 s250)
         obtain ⟨r274, hr275, HF⟩ := bind_some HF
         refine WL.call rfl rfl rfl (oc_func (vs := [.pointer (some ⟨b1, 0, none⟩), .bool false]) rfl t_ent_59) (ok_ref02_Size_Right _ hr275 S251.sub ob273) ?_
         rintro v276 w277 ⟨h278, s279, rfl, ob280⟩
         have S281 := S251.trans s279 (in_cons (.inl (by simp)) in_nil)
         refine WL.nil ?_
         have ob317 := ((ob243.step0 s250).step1 s279 (Ne.symm ne19))
         refine WC.to [0, 2, 4] [(0, .pointer (some ⟨b1, 0, none⟩)), (2, .int .i64 x10), (4, .pointer (some ⟨b15, 0, none⟩))] rfl ?_
         exact J314 ⟨h278, r274, HF, rfl, S281, (s250.le).trans s279.le, ob280, ob317⟩
      ·replace HF := bif_f hb244 HF
       refine WL.pass rfl rfl rfl <| WL.pass rfl rfl rfl <| WL.pass rfl rfl rfl <| WL.val rfl rfl rfl (ov_pickF rfl rfl) <| WL.val rfl rfl rfl (ov_move rfl) <| WL.val rfl rfl rfl (ov_move rfl) <| WL.val rfl rfl rfl (ov_not rfl) <| WL.val rfl rfl rfl (ov_move rfl) <| WL.split 137 (b := !x133) rfl (fun hb282 => ?_) (fun hb282 => ?_)
       ·replace HF := bif_t hb282 HF
        refine WL.val rfl rfl rfl (ov_fieldAddr rfl t_field_32_4) <| WL.val rfl rfl rfl (ov_load1 rfl t_agg_9 (OB.cell ob243 (j := 4) rfl)) <| WL.val rfl rfl rfl (ov_eqlS rfl rfl) <| WL.val rfl rfl rfl (ov_pickT rfl rfl) <| WL.val rfl rfl rfl (ov_pickF rfl rfl) ?_
        obtain ⟨r283, hr284, HF⟩ := bind_some HF
        refine WL.call rfl rfl rfl (oc_func (vs := [.pointer (some ⟨b1, 0, none⟩), .bool (bEq x7.f (⟨#[]⟩ : ByteArray))]) rfl t_ent_59) (ok_ref02_Size_Right _ hr284 S240.sub ob242) ?_
        rintro v285 w286 ⟨h287, s288, rfl, ob289⟩
        have S290 := S240.trans s288 (in_cons (.inl (by simp)) in_nil)
        refine WL.nil ?_
        have ob318 := (ob243.step1 s288 (Ne.symm ne19))
        refine WC.to [0, 2, 4] [(0, .pointer (some ⟨b1, 0, none⟩)), (2, .int .i64 x10), (4, .pointer (some ⟨b15, 0, none⟩))] rfl ?_
        exact J314 ⟨h287, r283, HF, rfl, S290, s288.le, ob289, ob318⟩
       ·replace HF := bif_f hb282 HF
        refine WL.pass rfl rfl rfl <| WL.pass rfl rfl rfl <| WL.pass rfl rfl rfl <| WL.val rfl rfl rfl (ov_pickF rfl rfl) <| WL.val rfl rfl rfl (ov_pickF rfl rfl) ?_
        obtain ⟨r291, hr292, HF⟩ := bind_some HF
        refine WL.call rfl rfl rfl (oc_func (vs := [.pointer (some ⟨b1, 0, none⟩), .bool false]) rfl t_ent_59) (ok_ref02_Size_Right _ hr292 S240.sub ob242) ?_
        rintro v293 w294 ⟨h295, s296, rfl, ob297⟩
        have S298 := S240.trans s296 (in_cons (.inl (by simp)) in_nil)
        refine WL.nil ?_
        have ob319 := (ob243.step1 s296 (Ne.symm ne19))
        refine WC.to [0, 2, 4] [(0, .pointer (some ⟨b1, 0, none⟩)), (2, .int .i64 x10), (4, .pointer (some ⟨b15, 0, none⟩))] rfl ?_
        exact J314 ⟨h295, r291, HF, rfl, S298, s296.le, ob297, ob319⟩
    ·intro J320
     refine WC.region <| WL.val rfl rfl rfl (ov_move rfl) <| WL.val rfl rfl rfl (ov_move rfl) <| WL.val rfl rfl rfl (ov_move rfl) <| WL.split 112 (b := x132) rfl (fun hb182 => ?_) (fun hb182 => ?_)
     ·replace HF := bif_t hb182 HF
      refine WL.val rfl rfl rfl (ov_fieldAddr rfl t_field_32_3) <| WL.val rfl rfl rfl (ov_load1 rfl t_agg_9 (OB.cell ob181 (j := 3) rfl)) ?_
      obtain ⟨r183, hr184, HF⟩ := bind_some HF
      refine WL.call rfl rfl rfl (oc_func (vs := [.string x7.s]) rfl t_ent_60) (ok_ref01_IsName _ hr184 S178.sub) ?_
      rintro _ w186 ⟨h187, s188, rfl⟩
      have S189 := S178.trans0 s188
      refine WL.val rfl rfl rfl (ov_pickT rfl rfl) <| WL.val rfl rfl rfl (ov_move rfl) <| WL.split 117 (b := r183) rfl (fun hb190 => ?_) (fun hb190 => ?_)
      ·replace HF := bif_t hb190 HF
       refine WL.pass rfl rfl rfl <| WL.pass rfl rfl rfl <| WL.pass rfl rfl rfl <| WL.pass rfl rfl rfl <| WL.pass rfl rfl rfl <| WL.pass rfl rfl rfl <| WL.pass rfl rfl rfl <| WL.val rfl rfl rfl (ov_pickT rfl rfl) ?_
       have ob191 := (ob180.step0 s188)
       obtain ⟨r192, hr193, HF⟩ := bind_some HF
       refine WL.call rfl rfl rfl (oc_func (vs := [.pointer (some ⟨b1, 0, none⟩), .bool true]) rfl t_ent_59) (ok_ref02_Size_Right _ hr193 S189.sub ob191) ?_
       rintro v194 w195 ⟨h196, s197, rfl, ob198⟩
       have S199 := S189.trans s197 (in_cons (.inl (by simp)) in_nil)
       refine WL.nil ?_
       have ob321 := ((ob181.step0 s188).step1 s197 (Ne.symm ne19))
       refine WC.to [0, 2, 4, 8] [(0, .pointer (some ⟨b1, 0, none⟩)), (2, .int .i64 x10), (4, .pointer (some ⟨b15, 0, none⟩)), (8, .bool x133)] rfl ?_
       exact J320 ⟨h196, r192, HF, rfl, S199, (s188.le).trans s197.le, ob198, ob321⟩
      ·replace HF := bif_f hb190 HF
       refine WL.val rfl rfl rfl (ov_move rfl) <| WL.val rfl rfl rfl (ov_not rfl) <| WL.val rfl rfl rfl (ov_move rfl) <| WL.split 120 (b := !x132) rfl (fun hb200 => ?_) (fun hb200 => ?_)
       ·replace HF := bif_t hb200 HF
        refine WL.val rfl rfl rfl (ov_fieldAddr rfl t_field_32_3) ?_
        have ob201 := (ob181.step0 s188)
        refine WL.val rfl rfl rfl (ov_load1 rfl t_agg_9 (OB.cell ob201 (j := 3) rfl)) <| WL.val rfl rfl rfl (ov_eqlS rfl rfl) <| WL.val rfl rfl rfl (ov_pickT rfl rfl) <| WL.val rfl rfl rfl (ov_pickF rfl rfl) ?_
        have ob202 := (ob180.step0 s188)
        obtain ⟨r203, hr204, HF⟩ := bind_some HF
        refine WL.call rfl rfl rfl (oc_func (vs := [.pointer (some ⟨b1, 0, none⟩), .bool (bEq x7.s (⟨#[]⟩ : ByteArray))]) rfl t_ent_59) (ok_ref02_Size_Right _ hr204 S189.sub ob202) ?_
        rintro v205 w206 ⟨h207, s208, rfl, ob209⟩
        have S210 := S189.trans s208 (in_cons (.inl (by simp)) in_nil)
        refine WL.nil ?_
        have ob322 := (ob201.step1 s208 (Ne.symm ne19))
        refine WC.to [0, 2, 4, 8] [(0, .pointer (some ⟨b1, 0, none⟩)), (2, .int .i64 x10), (4, .pointer (some ⟨b15, 0, none⟩)), (8, .bool x133)] rfl ?_
        exact J320 ⟨h207, r203, HF, rfl, S210, (s188.le).trans s208.le, ob209, ob322⟩
       ·replace HF := bif_f hb200 HF
        refine WL.pass rfl rfl rfl <| WL.pass rfl rfl rfl <| WL.pass rfl rfl rfl <| WL.val rfl rfl rfl (ov_pickF rfl rfl) <| WL.val rfl rfl rfl (ov_pickF rfl rfl) ?_
        have ob211 := (ob180.step0 s188)
        obtain ⟨r212, hr213, HF⟩ := bind_some HF
        refine WL.call rfl rfl rfl (oc_func (vs := [.pointer (some ⟨b1, 0, none⟩), .bool false]) rfl t_ent_59) (ok_ref02_Size_Right _ hr213 S189.sub ob211) ?_
        rintro v214 w215 ⟨h216, s217, rfl, ob218⟩
        have S219 := S189.trans s217 (in_cons (.inl (by simp)) in_nil)
        refine WL.nil ?_
        have ob323 := ((ob181.step0 s188).step1 s217 (Ne.symm ne19))
        refine WC.to [0, 2, 4, 8] [(0, .pointer (some ⟨b1, 0, none⟩)), (2, .int .i64 x10), (4, .pointer (some ⟨b15, 0, none⟩)), (8, .bool x133)] rfl ?_
        exact J320 ⟨h216, r212, HF, rfl, S219, (s188.le).trans s217.le, ob218, ob323⟩
     ·replace HF := bif_f hb182 HF
      refine WL.pass rfl rfl rfl <| WL.pass rfl rfl rfl <| WL.pass rfl rfl rfl <| WL.val rfl rfl rfl (ov_pickF rfl rfl) <| WL.val rfl rfl rfl (ov_move rfl) <| WL.val rfl rfl rfl (ov_move rfl) <| WL.val rfl rfl rfl (ov_not rfl) <| WL.val rfl rfl rfl (ov_move rfl) <| WL.split 120 (b := !x132) rfl (fun hb220 => ?_) (fun hb220 => ?_)
      ·replace HF := bif_t hb220 HF
       refine WL.val rfl rfl rfl (ov_fieldAddr rfl t_field_32_3) <| WL.val rfl rfl rfl (ov_load1 rfl t_agg_9 (OB.cell ob181 (j := 3) rfl)) <| WL.val rfl rfl rfl (ov_eqlS rfl rfl) <| WL.val rfl rfl rfl (ov_pickT rfl rfl) <| WL.val rfl rfl rfl (ov_pickF rfl rfl) ?_
       obtain ⟨r221, hr222, HF⟩ := bind_some HF
       refine WL.call rfl rfl rfl (oc_func (vs := [.pointer (some ⟨b1, 0, none⟩), .bool (bEq x7.s (⟨#[]⟩ : ByteArray))]) rfl t_ent_59) (ok_ref02_Size_Right _ hr222 S178.sub ob180) ?_
       rintro v223 w224 ⟨h225, s226, rfl, ob227⟩
       have S228 := S178.trans s226 (in_cons (.inl (by simp)) in_nil)
       refine WL.nil ?_
       have ob324 := (ob181.step1 s226 (Ne.symm ne19))
       refine WC.to [0, 2, 4, 8] [(0, .pointer (some ⟨b1, 0, none⟩)), (2, .int .i64 x10), (4, .pointer (some ⟨b15, 0, none⟩)), (8, .bool x133)] rfl ?_
       exact J320 ⟨h225, r221, HF, rfl, S228, s226.le, ob227, ob324⟩
      ·replace HF := bif_f hb220 HF
       refine WL.pass rfl rfl rfl <| WL.pass rfl rfl rfl <| WL.pass rfl rfl rfl <| WL.val rfl rfl rfl (ov_pickF rfl rfl) <| WL.val rfl rfl rfl (ov_pickF rfl rfl) ?_
       obtain ⟨r229, hr230, HF⟩ := bind_some HF
       refine WL.call rfl rfl rfl (oc_func (vs := [.pointer (some ⟨b1, 0, none⟩), .bool false]) rfl t_ent_59) (ok_ref02_Size_Right _ hr230 S178.sub ob180) ?_
       rintro v231 w232 ⟨h233, s234, rfl, ob235⟩
       have S236 := S178.trans s234 (in_cons (.inl (by simp)) in_nil)
       refine WL.nil ?_
       have ob325 := (ob181.step1 s234 (Ne.symm ne19))
       refine WC.to [0, 2, 4, 8] [(0, .pointer (some ⟨b1, 0, none⟩)), (2, .int .i64 x10), (4, .pointer (some ⟨b15, 0, none⟩)), (8, .bool x133)] rfl ?_
       exact J320 ⟨h233, r229, HF, rfl, S236, s234.le, ob235, ob325⟩
   ·intro J326
    refine WC.region <| WL.val rfl rfl rfl (ov_move rfl) <| WL.val rfl rfl rfl (ov_fieldAddr rfl t_field_32_5) <| WL.val rfl rfl rfl (ov_load1 rfl t_agg_30 (OB.cell ob136 (j := 5) rfl)) ?_
    obtain ⟨A137, c138, rfl, rs139⟩ := RS.form (rs13.mono ((s17.le).trans ((le26).trans ((s35.le).trans le129))))
    refine WL.val rfl rfl rfl (ov_lenL rfl t_slice_30) <| WL.val rfl rfl rfl (ov_move rfl) <| WL.val rfl rfl rfl (ov_eql rfl rfl) <| WL.val rfl rfl rfl (ov_move rfl) <| WL.split 94 (b := ((x7.args.length : Int) : Int) == x131) rfl (fun hb140 => ?_) (fun hb140 => ?_)
    ·replace HF := bif_t hb140 HF
     refine WL.val rfl rfl rfl (ov_fieldAddr rfl t_field_32_0) <| WL.val rfl rfl rfl (ov_load1 rfl t_agg_3 (OB.cell ob136 (j := 0) rfl)) <| WL.val rfl rfl rfl (ov_eql rfl rfl) <| WL.val rfl rfl rfl (ov_move rfl) <| WL.split 98 (b := (x7.op : Int) == 1) rfl (fun hb141 => ?_) (fun hb141 => ?_)
     ·replace HF := bif_t hb141 HF
      refine WL.pass rfl rfl rfl <| WL.pass rfl rfl rfl <| WL.pass rfl rfl rfl <| WL.pass rfl rfl rfl <| WL.pass rfl rfl rfl <| WL.pass rfl rfl rfl <| WL.pass rfl rfl rfl <| WL.pass rfl rfl rfl <| WL.val rfl rfl rfl (ov_pickT rfl rfl) <| WL.val rfl rfl rfl (ov_pickT rfl rfl) ?_
      obtain ⟨r142, hr143, HF⟩ := bind_some HF
      refine WL.call rfl rfl rfl (oc_func (vs := [.pointer (some ⟨b1, 0, none⟩), .bool true]) rfl t_ent_59) (ok_ref02_Size_Right _ hr143 S130.sub ob135) ?_
      rintro v144 w145 ⟨h146, s147, rfl, ob148⟩
      have S149 := S130.trans s147 (in_cons (.inl (by simp)) in_nil)
      refine WL.nil ?_
      have ob327 := (ob136.step1 s147 (Ne.symm ne19))
      refine WC.to [0, 2, 4, 7, 8] [(0, .pointer (some ⟨b1, 0, none⟩)), (2, .int .i64 x10), (4, .pointer (some ⟨b15, 0, none⟩)), (7, .bool x132), (8, .bool x133)] rfl ?_
      exact J326 ⟨h146, r142, HF, rfl, S149, s147.le, ob148, ob327⟩
     ·replace HF := bif_f hb141 HF
      refine WL.val rfl rfl rfl (ov_fieldAddr rfl t_field_32_1) <| WL.val rfl rfl rfl (ov_load1 rfl t_agg_3 (OB.cell ob136 (j := 1) rfl)) <| WL.val rfl rfl rfl (ov_eql rfl rfl) <| WL.val rfl rfl rfl (ov_move rfl) <| WL.split 102 (b := (x7.kind : Int) == 0) rfl (fun hb150 => ?_) (fun hb150 => ?_)
      ·replace HF := bif_t hb150 HF
       refine WL.val rfl rfl rfl (ov_fieldAddr rfl t_field_32_2) <| WL.val rfl rfl rfl (ov_load1 rfl t_agg_3 (OB.cell ob136 (j := 2) rfl)) <| WL.val rfl rfl rfl (ov_eql rfl rfl) <| WL.val rfl rfl rfl (ov_pickT rfl rfl) <| WL.val rfl rfl rfl (ov_pickF rfl rfl) <| WL.val rfl rfl rfl (ov_pickT rfl rfl) ?_
       obtain ⟨r151, hr152, HF⟩ := bind_some HF
       refine WL.call rfl rfl rfl (oc_func (vs := [.pointer (some ⟨b1, 0, none⟩), .bool ((x7.n : Int) == 0)]) rfl t_ent_59) (ok_ref02_Size_Right _ hr152 S130.sub ob135) ?_
       rintro v153 w154 ⟨h155, s156, rfl, ob157⟩
       have S158 := S130.trans s156 (in_cons (.inl (by simp)) in_nil)
       refine WL.nil ?_
       have ob328 := (ob136.step1 s156 (Ne.symm ne19))
       refine WC.to [0, 2, 4, 7, 8] [(0, .pointer (some ⟨b1, 0, none⟩)), (2, .int .i64 x10), (4, .pointer (some ⟨b15, 0, none⟩)), (7, .bool x132), (8, .bool x133)] rfl ?_
       exact J326 ⟨h155, r151, HF, rfl, S158, s156.le, ob157, ob328⟩
      ·replace HF := bif_f hb150 HF
       refine WL.pass rfl rfl rfl <| WL.pass rfl rfl rfl <| WL.pass rfl rfl rfl <| WL.val rfl rfl rfl (ov_pickF rfl rfl) <| WL.val rfl rfl rfl (ov_pickF rfl rfl) <| WL.val rfl rfl rfl (ov_pickT rfl rfl) ?_
       obtain ⟨r159, hr160, HF⟩ := bind_some HF
       refine WL.call rfl rfl rfl (oc_func (vs := [.pointer (some ⟨b1, 0, none⟩), .bool false]) rfl t_ent_59) (ok_ref02_Size_Right _ hr160 S130.sub ob135) ?_
       rintro v161 w162 ⟨h163, s164, rfl, ob165⟩
       have S166 := S130.trans s164 (in_cons (.inl (by simp)) in_nil)
       refine WL.nil ?_
       have ob329 := (ob136.step1 s164 (Ne.symm ne19))
       refine WC.to [0, 2, 4, 7, 8] [(0, .pointer (some ⟨b1, 0, none⟩)), (2, .int .i64 x10), (4, .pointer (some ⟨b15, 0, none⟩)), (7, .bool x132), (8, .bool x133)] rfl ?_
       exact J326 ⟨h163, r159, HF, rfl, S166, s164.le, ob165, ob329⟩
    ·replace HF := bif_f hb140 HF
     refine WL.pass rfl rfl rfl <| WL.pass rfl rfl rfl <| WL.pass rfl rfl rfl <| WL.pass rfl rfl rfl <| WL.pass rfl rfl rfl <| WL.pass rfl rfl rfl <| WL.pass rfl rfl rfl <| WL.pass rfl rfl rfl <| WL.pass rfl rfl rfl <| WL.pass rfl rfl rfl <| WL.pass rfl rfl rfl <| WL.pass rfl rfl rfl <| WL.pass rfl rfl rfl <| WL.val rfl rfl rfl (ov_pickF rfl rfl) ?_
     obtain ⟨r167, hr168, HF⟩ := bind_some HF
     refine WL.call rfl rfl rfl (oc_func (vs := [.pointer (some ⟨b1, 0, none⟩), .bool false]) rfl t_ent_59) (ok_ref02_Size_Right _ hr168 S130.sub ob135) ?_
     rintro v169 w170 ⟨h171, s172, rfl, ob173⟩
     have S174 := S130.trans s172 (in_cons (.inl (by simp)) in_nil)
     refine WL.nil ?_
     have ob330 := (ob136.step1 s172 (Ne.symm ne19))
     refine WC.to [0, 2, 4, 7, 8] [(0, .pointer (some ⟨b1, 0, none⟩)), (2, .int .i64 x10), (4, .pointer (some ⟨b15, 0, none⟩)), (7, .bool x132), (8, .bool x133)] rfl ?_
     exact J326 ⟨h171, r167, HF, rfl, S174, s172.le, ob173, ob330⟩
  ·intro J331
   refine WC.block <| WC.seq <| WC.region <| WL.val rfl rfl rfl (ov_fieldAddr rfl t_field_32_0) ?_
   have ob38 := (ob29.step1 s35 (Ne.symm ne19))
   refine WL.val rfl rfl rfl (ov_load1 rfl t_agg_3 (OB.cell ob38 (j := 0) rfl)) <| WL.val rfl rfl rfl (ov_eql rfl rfl) <| WL.val rfl rfl rfl (ov_assign rfl) <| WL.nil <| WQ.seqN <| WC.cond (b := (x7.op : Int) == 1) rfl (fun hb39 => ?_) (fun hb39 => ?_)
   ·replace HF := bif_t hb39 HF
    refine WC.seq <| WC.region <| WL.val rfl rfl rfl (ov_assign rfl) <| WL.nil <| WQ.seqN <| WC.region <| WL.val rfl rfl rfl (ov_move rfl) <| WL.val rfl rfl rfl (ov_fieldAddr rfl t_field_32_2) <| WL.val rfl rfl rfl (ov_load1 rfl t_agg_3 (OB.cell ob38 (j := 2) rfl)) <| WL.val rfl rfl rfl (ov_geq rfl rfl) <| WL.val rfl rfl rfl (ov_move rfl) <| WL.split 34 (b := decide ((0 : Int) ≤ x7.n)) rfl (fun hb40 => ?_) (fun hb40 => ?_)
    ·replace HF := bif_t hb40 HF
     refine WL.val rfl rfl rfl (ov_fieldAddr rfl t_field_32_2) <| WL.val rfl rfl rfl (ov_load1 rfl t_agg_3 (OB.cell ob38 (j := 2) rfl)) <| WL.val rfl rfl rfl (ov_leq rfl rfl) <| WL.val rfl rfl rfl (ov_pickT rfl rfl) <| WL.val rfl rfl rfl (ov_move rfl) <| WL.split 39 (b := decide ((x7.n : Int) ≤ 2147483647)) rfl (fun hb41 => ?_) (fun hb41 => ?_)
     ·replace HF := bif_t hb41 HF
      refine WL.val rfl rfl rfl (ov_fieldAddr rfl t_field_32_1) <| WL.val rfl rfl rfl (ov_load1 rfl t_agg_3 (OB.cell ob38 (j := 1) rfl)) <| WL.val rfl rfl rfl (ov_eql rfl rfl) <| WL.val rfl rfl rfl (ov_move rfl) <| WL.split 43 (b := (x7.kind : Int) == 2) rfl (fun hb42 => ?_) (fun hb42 => ?_)
      ·replace HF := bif_t hb42 HF
       refine WL.pass rfl rfl rfl <| WL.pass rfl rfl rfl <| WL.pass rfl rfl rfl <| WL.val rfl rfl rfl (ov_pickT rfl rfl) <| WL.val rfl rfl rfl (ov_move rfl) <| WL.pass rfl rfl rfl <| WL.pass rfl rfl rfl <| WL.pass rfl rfl rfl <| WL.pass rfl rfl rfl <| WL.pass rfl rfl rfl <| WL.pass rfl rfl rfl <| WL.pass rfl rfl rfl <| WL.pass rfl rfl rfl <| WL.val rfl rfl rfl (ov_pickT rfl rfl) <| WL.val rfl rfl rfl (ov_pickT rfl rfl) ?_
       obtain ⟨r43, hr44, HF⟩ := bind_some HF
       refine WL.call rfl rfl rfl (oc_func (vs := [.pointer (some ⟨b1, 0, none⟩), .bool true]) rfl t_ent_59) (ok_ref02_Size_Right _ hr44 S37.sub ob36) ?_
       rintro v45 w46 ⟨h47, s48, rfl, ob49⟩
       have S50 := S37.trans s48 (in_cons (.inl (by simp)) in_nil)
       refine WL.nil <| WQ.blockN ?_
       have ob332 := (ob38.step1 s48 (Ne.symm ne19))
       refine WC.to [0, 2, 4, 6, 7, 8] [(0, .pointer (some ⟨b1, 0, none⟩)), (2, .int .i64 x10), (4, .pointer (some ⟨b15, 0, none⟩)), (6, .int .i64 0), (7, .bool false), (8, .bool false)] rfl ?_
       exact J331 ⟨h47, 0, false, false, r43, HF, rfl, S50, s48.le, ob49, ob332⟩
      ·replace HF := bif_f hb42 HF
       refine WL.val rfl rfl rfl (ov_fieldAddr rfl t_field_32_1) <| WL.val rfl rfl rfl (ov_load1 rfl t_agg_3 (OB.cell ob38 (j := 1) rfl)) <| WL.val rfl rfl rfl (ov_eql rfl rfl) <| WL.val rfl rfl rfl (ov_pickF rfl rfl) <| WL.val rfl rfl rfl (ov_move rfl) <| WL.split 48 (b := (x7.kind : Int) == 3) rfl (fun hb51 => ?_) (fun hb51 => ?_)
       ·replace HF := bif_t hb51 HF
        refine WL.pass rfl rfl rfl <| WL.pass rfl rfl rfl <| WL.pass rfl rfl rfl <| WL.pass rfl rfl rfl <| WL.pass rfl rfl rfl <| WL.pass rfl rfl rfl <| WL.pass rfl rfl rfl <| WL.pass rfl rfl rfl <| WL.val rfl rfl rfl (ov_pickT rfl rfl) <| WL.val rfl rfl rfl (ov_pickT rfl rfl) ?_
        obtain ⟨r52, hr53, HF⟩ := bind_some HF
        refine WL.call rfl rfl rfl (oc_func (vs := [.pointer (some ⟨b1, 0, none⟩), .bool true]) rfl t_ent_59) (ok_ref02_Size_Right _ hr53 S37.sub ob36) ?_
        rintro v54 w55 ⟨h56, s57, rfl, ob58⟩
        have S59 := S37.trans s57 (in_cons (.inl (by simp)) in_nil)
        refine WL.nil <| WQ.blockN ?_
        have ob333 := (ob38.step1 s57 (Ne.symm ne19))
        refine WC.to [0, 2, 4, 6, 7, 8] [(0, .pointer (some ⟨b1, 0, none⟩)), (2, .int .i64 x10), (4, .pointer (some ⟨b15, 0, none⟩)), (6, .int .i64 0), (7, .bool false), (8, .bool false)] rfl ?_
        exact J331 ⟨h56, 0, false, false, r52, HF, rfl, S59, s57.le, ob58, ob333⟩
       ·replace HF := bif_f hb51 HF
        refine WL.val rfl rfl rfl (ov_fieldAddr rfl t_field_32_1) <| WL.val rfl rfl rfl (ov_load1 rfl t_agg_3 (OB.cell ob38 (j := 1) rfl)) <| WL.val rfl rfl rfl (ov_eql rfl rfl) <| WL.val rfl rfl rfl (ov_move rfl) <| WL.split 52 (b := (x7.kind : Int) == 1) rfl (fun hb60 => ?_) (fun hb60 => ?_)
        ·replace HF := bif_t hb60 HF
         refine WL.val rfl rfl rfl (ov_fieldAddr rfl t_field_32_2) <| WL.val rfl rfl rfl (ov_load1 rfl t_agg_3 (OB.cell ob38 (j := 2) rfl)) <| WL.val rfl rfl rfl (ov_leq rfl rfl) <| WL.val rfl rfl rfl (ov_pickT rfl rfl) <| WL.val rfl rfl rfl (ov_pickF rfl rfl) <| WL.val rfl rfl rfl (ov_pickT rfl rfl) ?_
         obtain ⟨r61, hr62, HF⟩ := bind_some HF
         refine WL.call rfl rfl rfl (oc_func (vs := [.pointer (some ⟨b1, 0, none⟩), .bool (decide ((x7.n : Int) ≤ 1))]) rfl t_ent_59) (ok_ref02_Size_Right _ hr62 S37.sub ob36) ?_
         rintro v63 w64 ⟨h65, s66, rfl, ob67⟩
         have S68 := S37.trans s66 (in_cons (.inl (by simp)) in_nil)
         refine WL.nil <| WQ.blockN ?_
         have ob334 := (ob38.step1 s66 (Ne.symm ne19))
         refine WC.to [0, 2, 4, 6, 7, 8] [(0, .pointer (some ⟨b1, 0, none⟩)), (2, .int .i64 x10), (4, .pointer (some ⟨b15, 0, none⟩)), (6, .int .i64 0), (7, .bool false), (8, .bool false)] rfl ?_
         exact J331 ⟨h65, 0, false, false, r61, HF, rfl, S68, s66.le, ob67, ob334⟩
        ·replace HF := bif_f hb60 HF
         refine WL.pass rfl rfl rfl <| WL.pass rfl rfl rfl <| WL.pass rfl rfl rfl <| WL.val rfl rfl rfl (ov_pickF rfl rfl) <| WL.val rfl rfl rfl (ov_pickF rfl rfl) <| WL.val rfl rfl rfl (ov_pickT rfl rfl) ?_
         obtain ⟨r69, hr70, HF⟩ := bind_some HF
         refine WL.call rfl rfl rfl (oc_func (vs := [.pointer (some ⟨b1, 0, none⟩), .bool false]) rfl t_ent_59) (ok_ref02_Size_Right _ hr70 S37.sub ob36) ?_
         rintro v71 w72 ⟨h73, s74, rfl, ob75⟩
         have S76 := S37.trans s74 (in_cons (.inl (by simp)) in_nil)
         refine WL.nil <| WQ.blockN ?_
         have ob335 := (ob38.step1 s74 (Ne.symm ne19))
         refine WC.to [0, 2, 4, 6, 7, 8] [(0, .pointer (some ⟨b1, 0, none⟩)), (2, .int .i64 x10), (4, .pointer (some ⟨b15, 0, none⟩)), (6, .int .i64 0), (7, .bool false), (8, .bool false)] rfl ?_
         exact J331 ⟨h73, 0, false, false, r69, HF, rfl, S76, s74.le, ob75, ob335⟩
     ·replace HF := bif_f hb41 HF
      refine WL.pass rfl rfl rfl <| WL.pass rfl rfl rfl <| WL.pass rfl rfl rfl <| WL.pass rfl rfl rfl <| WL.pass rfl rfl rfl <| WL.pass rfl rfl rfl <| WL.pass rfl rfl rfl <| WL.pass rfl rfl rfl <| WL.pass rfl rfl rfl <| WL.pass rfl rfl rfl <| WL.pass rfl rfl rfl <| WL.pass rfl rfl rfl <| WL.pass rfl rfl rfl <| WL.pass rfl rfl rfl <| WL.pass rfl rfl rfl <| WL.pass rfl rfl rfl <| WL.pass rfl rfl rfl <| WL.pass rfl rfl rfl <| WL.val rfl rfl rfl (ov_pickF rfl rfl) ?_
      obtain ⟨r77, hr78, HF⟩ := bind_some HF
      refine WL.call rfl rfl rfl (oc_func (vs := [.pointer (some ⟨b1, 0, none⟩), .bool false]) rfl t_ent_59) (ok_ref02_Size_Right _ hr78 S37.sub ob36) ?_
      rintro v79 w80 ⟨h81, s82, rfl, ob83⟩
      have S84 := S37.trans s82 (in_cons (.inl (by simp)) in_nil)
      refine WL.nil <| WQ.blockN ?_
      have ob336 := (ob38.step1 s82 (Ne.symm ne19))
      refine WC.to [0, 2, 4, 6, 7, 8] [(0, .pointer (some ⟨b1, 0, none⟩)), (2, .int .i64 x10), (4, .pointer (some ⟨b15, 0, none⟩)), (6, .int .i64 0), (7, .bool false), (8, .bool false)] rfl ?_
      exact J331 ⟨h81, 0, false, false, r77, HF, rfl, S84, s82.le, ob83, ob336⟩
    ·replace HF := bif_f hb40 HF
     refine WL.pass rfl rfl rfl <| WL.pass rfl rfl rfl <| WL.pass rfl rfl rfl <| WL.val rfl rfl rfl (ov_pickF rfl rfl) <| WL.val rfl rfl rfl (ov_move rfl) <| WL.pass rfl rfl rfl <| WL.pass rfl rfl rfl <| WL.pass rfl rfl rfl <| WL.pass rfl rfl rfl <| WL.pass rfl rfl rfl <| WL.pass rfl rfl rfl <| WL.pass rfl rfl rfl <| WL.pass rfl rfl rfl <| WL.pass rfl rfl rfl <| WL.pass rfl rfl rfl <| WL.pass rfl rfl rfl <| WL.pass rfl rfl rfl <| WL.pass rfl rfl rfl <| WL.pass rfl rfl rfl <| WL.pass rfl rfl rfl <| WL.pass rfl rfl rfl <| WL.pass rfl rfl rfl <| WL.pass rfl rfl rfl <| WL.val rfl rfl rfl (ov_pickF rfl rfl) ?_
     obtain ⟨r85, hr86, HF⟩ := bind_some HF
     refine WL.call rfl rfl rfl (oc_func (vs := [.pointer (some ⟨b1, 0, none⟩), .bool false]) rfl t_ent_59) (ok_ref02_Size_Right _ hr86 S37.sub ob36) ?_
     rintro v87 w88 ⟨h89, s90, rfl, ob91⟩
     have S92 := S37.trans s90 (in_cons (.inl (by simp)) in_nil)
     refine WL.nil <| WQ.blockN ?_
     have ob337 := (ob38.step1 s90 (Ne.symm ne19))
     refine WC.to [0, 2, 4, 6, 7, 8] [(0, .pointer (some ⟨b1, 0, none⟩)), (2, .int .i64 x10), (4, .pointer (some ⟨b15, 0, none⟩)), (6, .int .i64 0), (7, .bool false), (8, .bool false)] rfl ?_
     exact J331 ⟨h89, 0, false, false, r85, HF, rfl, S92, s90.le, ob91, ob337⟩
   ·replace HF := bif_f hb39 HF
    refine WC.seq <| WC.region <| WL.val rfl rfl rfl (ov_fieldAddr rfl t_field_32_0) <| WL.val rfl rfl rfl (ov_load1 rfl t_agg_3 (OB.cell ob38 (j := 0) rfl)) <| WL.val rfl rfl rfl (ov_eql rfl rfl) <| WL.val rfl rfl rfl (ov_assign rfl) <| WL.nil <| WQ.seqN <| WC.cond (b := (x7.op : Int) == 2) rfl (fun hb93 => ?_) (fun hb93 => ?_)
    ·replace HF := bif_t hb93 HF
     refine WC.region <| WL.val rfl rfl rfl (ov_assign rfl) <| WL.val rfl rfl rfl (ov_assign rfl) <| WL.nil <| WQ.blockN <| WC.to [0, 2, 4, 6, 7, 8] [(0, .pointer (some ⟨b1, 0, none⟩)), (2, .int .i64 x10), (4, .pointer (some ⟨b15, 0, none⟩)), (6, .int .i64 0), (7, .bool true), (8, .bool false)] rfl ?_
     exact J331 ⟨h34, 0, true, false, r30.2.2, HF, rfl, S37, Hle.refl _, ob36, ob38⟩
    ·replace HF := bif_f hb93 HF
     refine WC.seq <| WC.region <| WL.val rfl rfl rfl (ov_fieldAddr rfl t_field_32_0) <| WL.val rfl rfl rfl (ov_load1 rfl t_agg_3 (OB.cell ob38 (j := 0) rfl)) <| WL.val rfl rfl rfl (ov_eql rfl rfl) <| WL.val rfl rfl rfl (ov_assign rfl) <| WL.nil <| WQ.seqN <| WC.cond (b := (x7.op : Int) == 3) rfl (fun hb94 => ?_) (fun hb94 => ?_)
     ·replace HF := bif_t hb94 HF
      refine WC.region <| WL.val rfl rfl rfl (ov_assign rfl) <| WL.val rfl rfl rfl (ov_assign rfl) <| WL.val rfl rfl rfl (ov_assign rfl) <| WL.nil <| WQ.blockN <| WC.to [0, 2, 4, 6, 7, 8] [(0, .pointer (some ⟨b1, 0, none⟩)), (2, .int .i64 x10), (4, .pointer (some ⟨b15, 0, none⟩)), (6, .int .i64 0), (7, .bool true), (8, .bool true)] rfl ?_
      exact J331 ⟨h34, 0, true, true, r30.2.2, HF, rfl, S37, Hle.refl _, ob36, ob38⟩
     ·replace HF := bif_f hb94 HF
      refine WC.seq <| WC.region <| WL.val rfl rfl rfl (ov_fieldAddr rfl t_field_32_0) <| WL.val rfl rfl rfl (ov_load1 rfl t_agg_3 (OB.cell ob38 (j := 0) rfl)) <| WL.val rfl rfl rfl (ov_eql rfl rfl) <| WL.val rfl rfl rfl (ov_assign rfl) <| WL.nil <| WQ.seqN <| WC.cond (b := (x7.op : Int) == 4) rfl (fun hb95 => ?_) (fun hb95 => ?_)
      ·replace HF := bif_t hb95 HF
       refine WC.region <| WL.val rfl rfl rfl (ov_assign rfl) <| WL.val rfl rfl rfl (ov_assign rfl) <| WL.nil <| WQ.blockN <| WC.to [0, 2, 4, 6, 7, 8] [(0, .pointer (some ⟨b1, 0, none⟩)), (2, .int .i64 x10), (4, .pointer (some ⟨b15, 0, none⟩)), (6, .int .i64 1), (7, .bool true), (8, .bool false)] rfl ?_
       exact J331 ⟨h34, 1, true, false, r30.2.2, HF, rfl, S37, Hle.refl _, ob36, ob38⟩
      ·replace HF := bif_f hb95 HF
       refine WC.seq <| WC.region <| WL.val rfl rfl rfl (ov_fieldAddr rfl t_field_32_0) <| WL.val rfl rfl rfl (ov_load1 rfl t_agg_3 (OB.cell ob38 (j := 0) rfl)) <| WL.val rfl rfl rfl (ov_eql rfl rfl) <| WL.val rfl rfl rfl (ov_assign rfl) <| WL.nil <| WQ.seqN <| WC.cond (b := (x7.op : Int) == 5) rfl (fun hb96 => ?_) (fun hb96 => ?_)
       ·replace HF := bif_t hb96 HF
        refine WC.region <| WL.val rfl rfl rfl (ov_fieldAddr rfl t_field_32_5) <| WL.val rfl rfl rfl (ov_load1 rfl t_agg_30 (OB.cell ob38 (j := 5) rfl)) ?_
        obtain ⟨A97, c98, rfl, rs99⟩ := RS.form (rs13.mono ((s17.le).trans ((le26).trans s35.le)))
        refine WL.val rfl rfl rfl (ov_lenL rfl t_slice_30) <| WL.val rfl rfl rfl (ov_assign rfl) <| WL.val rfl rfl rfl (ov_assign rfl) <| WL.nil <| WQ.blockN <| WC.to [0, 2, 4, 6, 7, 8] [(0, .pointer (some ⟨b1, 0, none⟩)), (2, .int .i64 x10), (4, .pointer (some ⟨b15, 0, none⟩)), (6, .int .i64 (x7.args.length : Int)), (7, .bool true), (8, .bool false)] rfl ?_
        exact J331 ⟨h34, (x7.args.length : Int), true, false, r30.2.2, HF, rfl, S37, Hle.refl _, ob36, ob38⟩
       ·replace HF := bif_f hb96 HF
        refine WC.join (fun E w102 => ∃ (h101 : Hp) (x105 : Bool), ref02_Size_Expr_j2 k (tie_ref02_Size_Expr k) x7 x10 r30 x105 = some r ∧ E = [(0, .pointer (some ⟨b1, 0, none⟩)), (2, .int .i64 x10), (4, .pointer (some ⟨b15, 0, none⟩)), (6, .int .i64 2), (7, .bool false), (8, .bool false), (79, .bool x105)] ∧ Stp [b1] w0 h0 w102 h101 ∧ Hle h34 h101 ∧ OB w102 h101 b1 T2 [.int .i64 r30.1, .int .i64 r30.2.1, .bool r30.2.2] ∧ OB w102 h101 b15 32 [.int .i64 x7.op, .int .i64 x7.kind, .int .i64 x7.n, .string x7.s, .string x7.f, v12]) ?_ ?_
        ·rintro E w102 ⟨h101, x105, HF, rfl, S104, le103, ob106, ob107⟩
         refine WC.cond (b := x105) rfl (fun hb108 => ?_) (fun hb108 => ?_)
         ·replace HF := bif_t hb108 HF
          refine WC.region <| WL.val rfl rfl rfl (ov_assign rfl) <| WL.nil <| WQ.blockN <| WC.to [0, 2, 4, 6, 7, 8] [(0, .pointer (some ⟨b1, 0, none⟩)), (2, .int .i64 x10), (4, .pointer (some ⟨b15, 0, none⟩)), (6, .int .i64 1), (7, .bool false), (8, .bool false)] rfl ?_
          exact J331 ⟨h101, 1, false, false, r30.2.2, HF, rfl, S104, le103, ob106, ob107⟩
         ·replace HF := bif_f hb108 HF
          refine WC.region <| WL.val rfl rfl rfl (ov_move rfl) <| WL.val rfl rfl rfl (ov_fieldAddr rfl t_field_32_0) <| WL.val rfl rfl rfl (ov_load1 rfl t_agg_3 (OB.cell ob107 (j := 0) rfl)) <| WL.val rfl rfl rfl (ov_geq rfl rfl) <| WL.val rfl rfl rfl (ov_move rfl) <| WL.split 20 (b := decide ((8 : Int) ≤ x7.op)) rfl (fun hb109 => ?_) (fun hb109 => ?_)
          ·replace HF := bif_t hb109 HF
           refine WL.val rfl rfl rfl (ov_fieldAddr rfl t_field_32_0) <| WL.val rfl rfl rfl (ov_load1 rfl t_agg_3 (OB.cell ob107 (j := 0) rfl)) <| WL.val rfl rfl rfl (ov_leq rfl rfl) <| WL.val rfl rfl rfl (ov_pickT rfl rfl) ?_
           obtain ⟨r110, hr111, HF⟩ := bind_some HF
           refine WL.call rfl rfl rfl (oc_func (vs := [.pointer (some ⟨b1, 0, none⟩), .bool (decide ((x7.op : Int) ≤ 21))]) rfl t_ent_59) (ok_ref02_Size_Right _ hr111 S104.sub ob106) ?_
           rintro v112 w113 ⟨h114, s115, rfl, ob116⟩
           have S117 := S104.trans s115 (in_cons (.inl (by simp)) in_nil)
           refine WL.nil <| WQ.blockN ?_
           have ob338 := (ob107.step1 s115 (Ne.symm ne19))
           refine WC.to [0, 2, 4, 6, 7, 8] [(0, .pointer (some ⟨b1, 0, none⟩)), (2, .int .i64 x10), (4, .pointer (some ⟨b15, 0, none⟩)), (6, .int .i64 2), (7, .bool false), (8, .bool false)] rfl ?_
           exact J331 ⟨h114, 2, false, false, r110, HF, rfl, S117, (le103).trans s115.le, ob116, ob338⟩
          ·replace HF := bif_f hb109 HF
           refine WL.pass rfl rfl rfl <| WL.pass rfl rfl rfl <| WL.pass rfl rfl rfl <| WL.val rfl rfl rfl (ov_pickF rfl rfl) ?_
           obtain ⟨r118, hr119, HF⟩ := bind_some HF
           refine WL.call rfl rfl rfl (oc_func (vs := [.pointer (some ⟨b1, 0, none⟩), .bool false]) rfl t_ent_59) (ok_ref02_Size_Right _ hr119 S104.sub ob106) ?_
           rintro v120 w121 ⟨h122, s123, rfl, ob124⟩
           have S125 := S104.trans s123 (in_cons (.inl (by simp)) in_nil)
           refine WL.nil <| WQ.blockN ?_
           have ob339 := (ob107.step1 s123 (Ne.symm ne19))
           refine WC.to [0, 2, 4, 6, 7, 8] [(0, .pointer (some ⟨b1, 0, none⟩)), (2, .int .i64 x10), (4, .pointer (some ⟨b15, 0, none⟩)), (6, .int .i64 2), (7, .bool false), (8, .bool false)] rfl ?_
           exact J331 ⟨h122, 2, false, false, r118, HF, rfl, S125, (le103).trans s123.le, ob124, ob339⟩
        ·intro J126
         refine WC.region <| WL.val rfl rfl rfl (ov_fieldAddr rfl t_field_32_0) <| WL.val rfl rfl rfl (ov_load1 rfl t_agg_3 (OB.cell ob38 (j := 0) rfl)) <| WL.val rfl rfl rfl (ov_eql rfl rfl) <| WL.val rfl rfl rfl (ov_move rfl) <| WL.split 83 (b := (x7.op : Int) == 6) rfl (fun hb100 => ?_) (fun hb100 => ?_)
         ·replace HF := bif_t hb100 HF
          refine WL.pass rfl rfl rfl <| WL.pass rfl rfl rfl <| WL.pass rfl rfl rfl <| WL.val rfl rfl rfl (ov_pickT rfl rfl) <| WL.val rfl rfl rfl (ov_assign rfl) <| WL.nil <| WC.to [0, 2, 4, 6, 7, 8, 79] [(0, .pointer (some ⟨b1, 0, none⟩)), (2, .int .i64 x10), (4, .pointer (some ⟨b15, 0, none⟩)), (6, .int .i64 2), (7, .bool false), (8, .bool false), (79, .bool true)] rfl ?_
          exact J126 ⟨h34, true, HF, rfl, S37, Hle.refl _, ob36, ob38⟩
         ·replace HF := bif_f hb100 HF
          refine WL.val rfl rfl rfl (ov_fieldAddr rfl t_field_32_0) <| WL.val rfl rfl rfl (ov_load1 rfl t_agg_3 (OB.cell ob38 (j := 0) rfl)) <| WL.val rfl rfl rfl (ov_eql rfl rfl) <| WL.val rfl rfl rfl (ov_pickF rfl rfl) <| WL.val rfl rfl rfl (ov_assign rfl) <| WL.nil <| WC.to [0, 2, 4, 6, 7, 8, 79] [(0, .pointer (some ⟨b1, 0, none⟩)), (2, .int .i64 x10), (4, .pointer (some ⟨b15, 0, none⟩)), (6, .int .i64 2), (7, .bool false), (8, .bool false), (79, .bool ((x7.op : Int) == 7))] rfl ?_
          exact J126 ⟨h34, (x7.op : Int) == 7, HF, rfl, S37, Hle.refl _, ob36, ob38⟩
 ·intro J340
  refine WC.seq <| WC.region <| WL.val rfl rfl rfl (ov_move rfl) <| WL.val rfl rfl rfl (ov_nilCheck rfl) <| WL.val rfl rfl rfl (ov_fieldAddr rfl t_field_60_2) ?_
  have ob22 := (ob6.step0 s17)
  refine WL.val rfl rfl rfl (ov_load1 rfl t_agg_4 (OB.cell ob22 (j := 2) rfl)) <| WL.nil <| WQ.seqN <| WC.cond (b := x5) rfl (fun hb23 => ?_) (fun hb23 => ?_)
  ·replace HF := bif_t hb23 HF
   refine WC.ret <| WQ.thenRet <| WQ.ret0 rfl ?_
   obtain rfl := Option.some.inj HF
   exact ⟨_, rfl, h0, S21, rfl, ob22⟩
  ·replace HF := bif_f hb23 HF
   refine WC.skip <| WC.to [0, 2, 4] [(0, .pointer (some ⟨b1, 0, none⟩)), (2, .int .i64 x10), (4, .pointer (some ⟨b15, 0, none⟩))] rfl ?_
   exact J340 ⟨h0, HF, rfl, S21, Hle.refl _, ob22, ob18⟩
set_option maxRecDepth 20000 in
set_option maxHeartbeats 4000000 in
theorem s_ref02_Size_Exprs (k : Nat) (IH : ∀ j, j ≤ k → C_ref02_Size_Expr (tie_ref02_Size_Expr j).ref02_Size_Expr ∧ C_ref02_Size_Exprs (tie_ref02_Size_Expr j).ref02_Size_Exprs) : C_ref02_Size_Exprs (m_ref02_Size_Exprs k (tie_ref02_Size_Expr k)) := by
 intro x3 x4 x5 xs7 x10 r HF w0 h0 b1 T2 v8 hs0 rs9 ob6
 have S0 : Stp [b1] w0 h0 w0 h0 := Stp.refl hs0 _
 have lt11 : b1 < w0.heap.size := OB.lt ob6
 refine enter (n := 27) Tryz.func61 rfl Tryz.ntmps61 rfl [(0, .pointer (some ⟨b1, 0, none⟩)), (1, v8), (2, .int .i64 x10)] rfl <| WC.seq <| WC.region <| WL.val rfl rfl rfl (ov_assign rfl) <| WL.nil <| WQ.seqN <| WC.block <| WC.loop <| WP.to [0, 1, 2, 6] [(0, .pointer (some ⟨b1, 0, none⟩)), (1, v8), (2, .int .i64 x10), (6, .int .i64 0)] rfl <| WP_rule (K := k) (fun j E w13 => ∃ (h12 : Hp) (x16 : Int) (x17 : Int) (x18 : Int) (x19 : Bool), (tie_ref02_Size_Expr j).ref02_Size_Exprs_l1 xs7 x10 x16 x17 x18 x19 = some r ∧ E = [(0, .pointer (some ⟨b1, 0, none⟩)), (1, v8), (2, .int .i64 x10), (6, .int .i64 x16)] ∧ Stp [b1] w0 h0 w13 h12 ∧ Hle h0 h12 ∧ OB w13 h12 b1 T2 [.int .i64 x17, .int .i64 x18, .bool x19]) ?_ ?_ (j := k) (Nat.le_refl _) ?_
 ·rintro E w13 ⟨_, _, _, _, _, HF, _⟩; cases HF
 ·rintro j21 hj23 IHL22 E w13 ⟨h12, x16, x17, x18, x19, HF, rfl, S15, le14, ob20⟩
  refine WC.join (fun E w37 => ∃ (h36 : Hp), ref02_Size_Exprs_j3 j21 (tie_ref02_Size_Expr j21) xs7 x10 x16 x17 x18 x19 = some r ∧ E = [(0, .pointer (some ⟨b1, 0, none⟩)), (1, v8), (2, .int .i64 x10), (6, .int .i64 x16)] ∧ Stp [b1] w0 h0 w37 h36 ∧ Hle h12 h36 ∧ OB w37 h36 b1 T2 [.int .i64 x17, .int .i64 x18, .bool x19]) ?_ ?_
  ·rintro E w37 ⟨h36, HF, rfl, S39, le38, ob40⟩
   refine WC.seq <| WC.block <| WC.region <| WL.val rfl rfl rfl (ov_move rfl) <| WL.val rfl rfl rfl (ov_move rfl) <| WL.val rfl rfl rfl (ov_move rfl) ?_
   obtain ⟨A41, c42, rfl, rs43⟩ := RS.form (rs9.mono ((le14).trans le38))
   obtain ⟨e44, he45, HF⟩ := bind_some HF
   obtain ⟨b46, o47, rfl, h49, h50, ra48⟩ := RS.atO rs43 he45
   obtain ⟨cs51, r52, hc53⟩ := ra48
   refine WL.val rfl rfl rfl (ov_indexAddr rfl rfl t_slice_30 t_size_32 h49 h50) <| WL.val rfl rfl rfl (ov_loadN (cs := cs51) rfl t_agg_32 (by rw [Rp.len r52]; exact t_size_32) (fun j v hv => S39.sub.at_ _ _ _ (hc53 j v hv))) <| WL.val rfl rfl rfl (ov_move rfl) ?_
   obtain ⟨r54, hr55, HF⟩ := bind_some HF
   refine WL.call rfl rfl rfl (oc_func (vs := [.pointer (some ⟨b1, 0, none⟩), .agg cs51.toArray, .int .i64 x10]) rfl t_ent_28) ((IH _ (Nat.le_trans (Nat.le_of_succ_le hj23) (Nat.le_refl _))).1 hr55 S39.sub r52 ob40) ?_
   rintro v56 w57 ⟨h58, s59, rfl, ob60⟩
   have S61 := S39.trans s59 (in_cons (.inl (by simp)) in_nil)
   refine WL.nil <| WQ.blockN <| WQ.seqN <| WC.region <| WL.val rfl rfl rfl (ov_move rfl) <| WL.val rfl rfl rfl (ov_add rfl rfl) <| WL.val rfl rfl rfl (ov_assign rfl) <| WL.nil <| WQ.loopN <| WP.to [0, 1, 2, 6] [(0, .pointer (some ⟨b1, 0, none⟩)), (1, .slice (some ⟨b46, o47, none⟩) (xs7).length c42), (2, .int .i64 x10), (6, .int .i64 (IntKind.i64.wrap (x16 + 1)))] rfl ?_
   exact IHL22 j21 (Nat.le_refl _) _ _ ⟨h58, IntKind.i64.wrap (x16 + 1), r54.1, r54.2.1, r54.2.2, HF, rfl, S61, (le14).trans ((le38).trans s59.le), ob60⟩
  ·intro J62
   refine WC.join (fun E w29 => ∃ (h28 : Hp) (x32 : Bool), ref02_Size_Exprs_j2 j21 (tie_ref02_Size_Expr j21) xs7 x10 x16 x17 x18 x19 x32 = some r ∧ E = [(0, .pointer (some ⟨b1, 0, none⟩)), (1, v8), (2, .int .i64 x10), (6, .int .i64 x16), (17, .bool x32)] ∧ Stp [b1] w0 h0 w29 h28 ∧ Hle h12 h28 ∧ OB w29 h28 b1 T2 [.int .i64 x17, .int .i64 x18, .bool x19]) ?_ ?_
   ·rintro E w29 ⟨h28, x32, HF, rfl, S31, le30, ob33⟩
    refine WC.cond (b := x32) rfl (fun hb34 => ?_) (fun hb34 => ?_)
    ·replace HF := bif_t hb34 HF
     refine WC.skip <| WC.to [0, 1, 2, 6] [(0, .pointer (some ⟨b1, 0, none⟩)), (1, v8), (2, .int .i64 x10), (6, .int .i64 x16)] rfl ?_
     exact J62 ⟨h28, HF, rfl, S31, le30, ob33⟩
    ·replace HF := bif_f hb34 HF
     refine WC.exit <| WQ.thenExit <| WQ.thenExit <| WQ.blockHit <| WQ.end0 rfl ?_
     obtain rfl := Option.some.inj HF
     exact ⟨_, rfl, h28, S31, rfl, ob33⟩
   ·intro J35
    refine WC.region <| WL.val rfl rfl rfl (ov_move rfl) <| WL.val rfl rfl rfl (ov_move rfl) ?_
    obtain ⟨A24, c25, rfl, rs26⟩ := RS.form (rs9.mono (le14))
    refine WL.val rfl rfl rfl (ov_lenL rfl t_slice_30) <| WL.val rfl rfl rfl (ov_lss rfl rfl) <| WL.val rfl rfl rfl (ov_move rfl) <| WL.split 11 (b := decide ((x16 : Int) < (xs7.length : Int))) rfl (fun hb27 => ?_) (fun hb27 => ?_)
    ·replace HF := bif_t hb27 HF
     refine WL.val rfl rfl rfl (ov_move rfl) <| WL.val rfl rfl rfl (ov_nilCheck rfl) <| WL.val rfl rfl rfl (ov_fieldAddr rfl t_field_60_2) <| WL.val rfl rfl rfl (ov_load1 rfl t_agg_4 (OB.cell ob20 (j := 2) rfl)) <| WL.val rfl rfl rfl (ov_not rfl) <| WL.val rfl rfl rfl (ov_pickT rfl rfl) <| WL.nil <| WC.to [0, 1, 2, 6, 17] [(0, .pointer (some ⟨b1, 0, none⟩)), (1, .slice A24 (xs7).length c25), (2, .int .i64 x10), (6, .int .i64 x16), (17, .bool (!x19))] rfl ?_
     exact J35 ⟨h12, !x19, HF, rfl, S15, Hle.refl _, ob20⟩
    ·replace HF := bif_f hb27 HF
     refine WL.pass rfl rfl rfl <| WL.pass rfl rfl rfl <| WL.pass rfl rfl rfl <| WL.pass rfl rfl rfl <| WL.pass rfl rfl rfl <| WL.val rfl rfl rfl (ov_pickF rfl rfl) <| WL.nil <| WC.to [0, 1, 2, 6, 17] [(0, .pointer (some ⟨b1, 0, none⟩)), (1, .slice A24 (xs7).length c25), (2, .int .i64 x10), (6, .int .i64 x16), (17, .bool false)] rfl ?_
     exact J35 ⟨h12, false, HF, rfl, S15, Hle.refl _, ob20⟩
 ·exact ⟨h0, 0, x3, x4, x5, HF, rfl, S0, Hle.refl _, ob6⟩
theorem all_ref02_Size_Expr : ∀ k j, j ≤ k → C_ref02_Size_Expr (tie_ref02_Size_Expr j).ref02_Size_Expr ∧ C_ref02_Size_Exprs (tie_ref02_Size_Expr j).ref02_Size_Exprs := by
  intro k
  induction k with
  | zero =>
    intro j hj
    obtain rfl : j = 0 := by omega
    exact ⟨(fun _ _ _ _ _ _ => by intro h; cases h), (fun _ _ _ _ _ _ => by intro h; cases h)⟩
  | succ k ih =>
    intro j hj
    by_cases h : j ≤ k
    · exact ih j h
    · obtain rfl : j = k + 1 := by omega
      exact ⟨s_ref02_Size_Expr k ih, s_ref02_Size_Exprs k ih⟩
theorem ok_ref02_Size_Expr (k : Nat) : C_ref02_Size_Expr (F_ref02_Size_Expr k) := (all_ref02_Size_Expr k k (Nat.le_refl _)).1
theorem ok_ref02_Size_Exprs (k : Nat) : C_ref02_Size_Exprs (F_ref02_Size_Exprs k) := (all_ref02_Size_Expr k k (Nat.le_refl _)).2

def C_ref02_WellExpr (φ : Ex → Option Bool) : Prop := ∀ ⦃x1 : Ex⦄ ⦃r : Bool⦄, φ x1 = some r → ∀ ⦃w0 : World⦄ ⦃h0 : Hp⦄ ⦃cs2 : List Value⦄, Sub h0 w0 → Rp.R h0 x1 cs2 →
  Calls Tryz.prog 15 #[.agg cs2.toArray] w0 fun e w1 => ∃ v, e = .returned v ∧ ∃ h1, Stp [] w0 h0 w1 h1 ∧ v = .bool r
set_option maxRecDepth 20000 in
set_option maxHeartbeats 4000000 in
theorem s_ref02_WellExpr (k : Nat) : C_ref02_WellExpr (F_ref02_WellExpr k) := by
 intro x1 r HF w0 h0 cs2 hs0 r3
 have S0 : Stp [] w0 h0 w0 h0 := Stp.refl hs0 _
 refine enter (n := 14) Tryz.func15 rfl Tryz.ntmps15 rfl [(0, .agg cs2.toArray)] rfl <| WC.seq <| WC.region ?_
 obtain ⟨v4, rfl, rs5⟩ := rp_Ex.1 r3
 refine WL.box (cs := [.int .i64 x1.op, .int .i64 x1.kind, .int .i64 x1.n, .string x1.s, .string x1.f, v4]) rfl rfl rfl rfl S0.sub (fun w6 b7 hb8 s9 ob10 => ?_)
 have g11 : w0.heap.size ≤ b7 := by rw [hb8]; exact S0.size
 have S12 := S0.trans0 s9
 refine WL.val rfl rfl rfl (ov_assign rfl) <| WL.nil <| WQ.seqN <| WC.seq <| WC.region <| WL.val rfl rfl rfl (ov_buildP (vs := []) (cs := [.int .i64 0, .int .i64 0, .bool false]) rfl t_places_60 t_zero_60 rfl) <| WL.box (cs := [.int .i64 0, .int .i64 0, .bool false]) rfl rfl rfl rfl S12.sub (fun w13 b14 hb15 s16 ob17 => ?_)
 have ne18 : b7 ≠ b14 := ob10.ne_new hb15
 have g19 : w0.heap.size ≤ b14 := by rw [hb15]; exact S12.size
 have S20 := S12.trans0 s16
 refine WL.val rfl rfl rfl (ov_assign rfl) <| WL.nil <| WQ.seqN <| WC.seq <| WC.region <| WL.val rfl rfl rfl (ov_move rfl) ?_
 have ob21 := (ob10.step0 s16)
 refine WL.val rfl rfl rfl (ov_loadN (cs := [.int .i64 x1.op, .int .i64 x1.kind, .int .i64 x1.n, .string x1.s, .string x1.f, v4]) rfl t_agg_32 t_size_32 (OB.cells ob21 0 rfl)) ?_
 obtain ⟨r22, hr23, HF⟩ := bind_some HF
 refine WL.call rfl rfl rfl (oc_func (vs := [.pointer (some ⟨b14, 0, none⟩), .agg #[.int .i64 x1.op, .int .i64 x1.kind, .int .i64 x1.n, .string x1.s, .string x1.f, v4], .int .i64 1]) rfl t_ent_28) (ok_ref02_Size_Expr _ hr23 S20.sub (rp_Ex.2 ⟨_, rfl, (rs5.mono ((s9.le).trans s16.le))⟩) ob17) ?_
 rintro v24 w25 ⟨h26, s27, rfl, ob28⟩
 have S29 := S20.trans s27 (in_cons (.inr g19) in_nil)
 refine WL.nil <| WQ.seqN <| WC.seq <| WC.region <| WL.val rfl rfl rfl (ov_move rfl) <| WL.val rfl rfl rfl (ov_nilCheck rfl) <| WL.val rfl rfl rfl (ov_fieldAddr rfl t_field_60_2) <| WL.val rfl rfl rfl (ov_load1 rfl t_agg_4 (OB.cell ob28 (j := 2) rfl)) <| WL.val rfl rfl rfl (ov_not rfl) <| WL.val rfl rfl rfl (ov_assign rfl) <| WL.nil <| WQ.seqN <| WC.ret <| WQ.ret1 rfl rfl ?_
 obtain rfl := Option.some.inj HF
 exact ⟨_, rfl, h26, S29, rfl⟩
theorem ok_ref02_WellExpr (k : Nat) : C_ref02_WellExpr (F_ref02_WellExpr k) := s_ref02_WellExpr k

def C_ref02_Sign (φ : Int → Option (Int × ByteArray)) : Prop := ∀ ⦃x1 : Int⦄ ⦃r : Int × ByteArray⦄, φ x1 = some r → ∀ ⦃w0 : World⦄ ⦃h0 : Hp⦄, Sub h0 w0 →
  Calls Tryz.prog 32 #[.int .i64 x1] w0 fun e w1 => ∃ v, e = .returned v ∧ ∃ h1, Stp [] w0 h0 w1 h1 ∧ (∃ u0 u1 : Value, v = .tuple #[u0, u1] ∧ (u0 = .int .i64 r.1) ∧ (u1 = .string r.2))
set_option maxRecDepth 20000 in
set_option maxHeartbeats 4000000 in
theorem s_ref02_Sign (k : Nat) (IH : ∀ j, j ≤ k → C_ref02_Sign (tie_ref02_Sign j).ref02_Sign) : C_ref02_Sign (m_ref02_Sign k (tie_ref02_Sign k)) := by
 intro x1 r HF w0 h0  hs0 
 have S0 : Stp [] w0 h0 w0 h0 := Stp.refl hs0 _
 refine enter (n := 33) Tryz.func32 rfl Tryz.ntmps32 rfl [(0, .int .i64 x1)] rfl <| WC.seq <| WC.region <| WL.val rfl rfl rfl (ov_assign rfl) <| WL.val rfl rfl rfl (ov_assign rfl) <| WL.nil <| WQ.seqN <| WC.seq <| WC.seq <| WC.region <| WL.val rfl rfl rfl (ov_assign rfl) <| WL.nil <| WQ.seqN <| WC.block <| WC.loop <| WP.to [0, 4] [(0, .int .i64 x1), (4, .int .i64 0)] rfl <| WP_rule (K := k) (fun j E w3 => ∃ (h2 : Hp) (x6 : Int), (tie_ref02_Sign j).ref02_Sign_l1 x1 x6 = some r ∧ E = [(0, .int .i64 x1), (4, .int .i64 x6)] ∧ Stp [] w0 h0 w3 h2 ∧ Hle h0 h2) ?_ ?_ (j := k) (Nat.le_refl _) ?_
 ·rintro E w3 ⟨_, _, HF, _⟩; cases HF
 ·rintro j7 hj9 IHL8 E w3 ⟨h2, x6, HF, rfl, S5, le4⟩
  refine WC.join (fun E w12 => ∃ (h11 : Hp), ref02_Sign_j2 j7 (tie_ref02_Sign j7) x1 x6 = some r ∧ E = [(0, .int .i64 x1), (4, .int .i64 x6)] ∧ Stp [] w0 h0 w12 h11 ∧ Hle h2 h11) ?_ ?_
  ·rintro E w12 ⟨h11, HF, rfl, S14, le13⟩
   refine WC.seq <| WC.block <| WC.seq <| WC.region <| WL.val rfl rfl rfl (ov_assign rfl) <| WL.nil <| WQ.seqN <| WC.block <| WC.loop <| WP.to [0, 4, 5] [(0, .int .i64 x1), (4, .int .i64 x6), (5, .int .i64 0)] rfl <| WP_rule (K := j7) (fun j E w16 => ∃ (h15 : Hp) (x19 : Int), (tie_ref02_Sign j).ref02_Sign_l3 x1 x6 x19 = some r ∧ E = [(0, .int .i64 x1), (4, .int .i64 x6), (5, .int .i64 x19)] ∧ Stp [] w0 h0 w16 h15 ∧ Hle h11 h15) ?_ ?_ (j := j7) (Nat.le_refl _) ?_
   ·rintro E w16 ⟨_, _, HF, _⟩; cases HF
   ·rintro j20 hj22 IHL21 E w16 ⟨h15, x19, HF, rfl, S18, le17⟩
    refine WC.join (fun E w40 => ∃ (h39 : Hp), ref02_Sign_j4 j20 (tie_ref02_Sign j20) x1 x6 x19 = some r ∧ E = [(0, .int .i64 x1), (4, .int .i64 x6), (5, .int .i64 x19)] ∧ Stp [] w0 h0 w40 h39 ∧ Hle h15 h39) ?_ ?_
    ·rintro E w40 ⟨h39, HF, rfl, S42, le41⟩
     refine WC.join (fun E w99 => ∃ (h98 : Hp), ref02_Sign_j5 j20 (tie_ref02_Sign j20) x1 x6 x19 = some r ∧ E = [(0, .int .i64 x1), (4, .int .i64 x6), (5, .int .i64 x19)] ∧ Stp [] w0 h0 w99 h98 ∧ Hle h39 h98) ?_ ?_
     ·rintro E w99 ⟨h98, HF, rfl, S101, le100⟩
      refine WC.region <| WL.val rfl rfl rfl (ov_move rfl) <| WL.val rfl rfl rfl (ov_add rfl rfl) <| WL.val rfl rfl rfl (ov_assign rfl) <| WL.nil <| WQ.loopN <| WP.to [0, 4, 5] [(0, .int .i64 x1), (4, .int .i64 x6), (5, .int .i64 (IntKind.i64.wrap (x19 + 1)))] rfl ?_
      exact IHL21 j20 (Nat.le_refl _) _ _ ⟨h98, IntKind.i64.wrap (x19 + 1), HF, rfl, S101, (le17).trans ((le41).trans le100)⟩
     ·intro J102
      refine WC.block <| WC.seq <| WC.region <| WL.val rfl rfl rfl (ov_move rfl) ?_
      obtain ⟨e43, he44, HF⟩ := bind_some HF
      obtain ⟨b45, o46, hA, h48, h49, ra47⟩ := RS.atO S42.sub.glob.g0 he44
      cases hA
      obtain ⟨cs50, r51, hc52⟩ := ra47
      obtain ⟨v53, rfl, rs54⟩ := r51
      refine WL.val rfl rfl rfl (ov_indexAddrA rfl rfl t_arr_101 t_size_45 h48 h49) <| WL.val rfl rfl rfl (ov_load1 rfl t_agg_45 (S42.sub.at_ _ _ _ (hc52 0 _ rfl))) <| WL.val rfl rfl rfl (ov_move rfl) ?_
      obtain ⟨A55, c56, rfl, rs57⟩ := RS.form rs54
      obtain ⟨e58, he59, HF⟩ := bind_some HF
      obtain ⟨b60, o61, rfl, h63, h64, ra62⟩ := RS.atO rs57 he59
      obtain ⟨cs65, r66, hc67⟩ := ra62
      obtain rfl := (show cs65 = _ from r66)
      refine WL.val rfl rfl rfl (ov_indexAddr rfl rfl t_slice_45 t_size_3 h63 h64) <| WL.val rfl rfl rfl (ov_load1 rfl t_agg_3 (S42.sub.at_ _ _ _ (hc67 0 _ rfl))) <| WL.val rfl rfl rfl (ov_move rfl) <| WL.val rfl rfl rfl (ov_eql rfl rfl) <| WL.nil <| WQ.seqN <| WC.cond (b := (e58 : Int) == x1) rfl (fun hb68 => ?_) (fun hb68 => ?_)
      ·replace HF := bif_t hb68 HF
       refine WC.seq ?_
       obtain ⟨e69, he70, HF⟩ := bind_some HF
       obtain ⟨b71, o72, hA, h74, h75, ra73⟩ := RS.atO S42.sub.glob.g1 he70
       cases hA
       obtain ⟨cs76, r77, hc78⟩ := ra73
       obtain ⟨v79, rfl, rs80⟩ := r77
       obtain ⟨A81, c82, rfl, rs83⟩ := RS.form rs80
       obtain ⟨e84, he85, HF⟩ := bind_some HF
       obtain ⟨b86, o87, rfl, h89, h90, ra88⟩ := RS.atO rs83 he85
       obtain ⟨cs91, r92, hc93⟩ := ra88
       obtain rfl := (show cs91 = _ from r92)
       refine WC.drawn (m := 8) [(4, .int .i64 x6), (5, .int .i64 x19)] [4, 5] rfl (fun i v w h => match i with | 0 => v = .int .i64 x6 | 1 => v = .int .i64 x6 | 2 => v = .pointer (some ⟨1, 0 + Int.toNat x6 * 1, none⟩) | 3 => v = .slice (some ⟨b86, o87, none⟩) (e69).length c82 | 4 => v = .int .i64 x19 | 5 => v = .pointer (some ⟨b86, o87 + Int.toNat x19 * 1, none⟩) | 6 => v = .string e84 | 7 => v = .int .i64 x6 | _ => True) t_mixed S42.sub rfl rfl rfl rfl rfl ?_ ?_ ?_
       ·intro i v w h w2 h2 hΦ hst
        match i, hΦ with
        | 0, hΦ => exact hΦ
        | 1, hΦ => exact hΦ
        | 2, hΦ => exact hΦ
        | 3, hΦ => exact hΦ
        | 4, hΦ => exact hΦ
        | 5, hΦ => exact hΦ
        | 6, hΦ => exact hΦ
        | 7, hΦ => exact hΦ
        | i + 8, _ => exact trivial
       ·refine ⟨?_, ?_, ?_, ?_, ?_, ?_, ?_, ?_, trivial⟩
        ·intro a w94 h95 s96 hat hF
         exact front_val (show At _ [(4, .int .i64 x6), (5, .int .i64 x19)] _ from hat) rfl (ov_move rfl) s96.sub (by exact rfl)
        ·intro a w94 h95 s96 hat hF
         exact front_val (show At _ [(4, .int .i64 x6), (5, .int .i64 x19)] _ from hat) rfl (ov_move rfl) s96.sub (by exact rfl)
        ·intro a w94 h95 s96 hat hF
         obtain hv1 := hF 1 27 rfl rfl
         exact front_val (show At _ [(27, .int .i64 x6), (4, .int .i64 x6), (5, .int .i64 x19)] _ from (At.cons hat hv1)) rfl (ov_indexAddrA rfl rfl t_arr_102 t_size_41 h74 h75) s96.sub (by exact rfl)
        ·intro a w94 h95 s96 hat hF
         obtain hv2 := hF 2 28 rfl rfl
         exact front_val (show At _ [(28, .pointer (some ⟨1, 0 + Int.toNat x6 * 1, none⟩)), (4, .int .i64 x6), (5, .int .i64 x19)] _ from (At.cons hat hv2)) rfl (ov_load1 rfl t_agg_41 (s96.sub.at_ _ _ _ ((fun i v hv => (s96.le).1 _ _ _ (hc78 i v hv)) 0 _ rfl))) s96.sub (by exact rfl)
        ·intro a w94 h95 s96 hat hF
         exact front_val (show At _ [(4, .int .i64 x6), (5, .int .i64 x19)] _ from hat) rfl (ov_move rfl) s96.sub (by exact rfl)
        ·intro a w94 h95 s96 hat hF
         obtain hv3 := hF 3 29 rfl rfl
         obtain hv4 := hF 4 30 rfl rfl
         exact front_val (show At _ [(30, .int .i64 x19), (29, .slice (some ⟨b86, o87, none⟩) (e69).length c82), (4, .int .i64 x6), (5, .int .i64 x19)] _ from (At.cons (At.cons hat hv3) hv4)) rfl (ov_indexAddr rfl rfl t_slice_41 t_size_9 h89 h90) s96.sub (by exact rfl)
        ·intro a w94 h95 s96 hat hF
         obtain hv5 := hF 5 31 rfl rfl
         exact front_val (show At _ [(31, .pointer (some ⟨b86, o87 + Int.toNat x19 * 1, none⟩)), (4, .int .i64 x6), (5, .int .i64 x19)] _ from (At.cons hat hv5)) rfl (ov_load1 rfl t_agg_9 (s96.sub.at_ _ _ _ ((fun i v hv => (s96.le).1 _ _ _ (hc93 i v hv)) 0 _ rfl))) s96.sub (by exact rfl)
        ·intro a w94 h95 s96 hat hF
         obtain hv0 := hF 0 26 rfl rfl
         exact front_val (show At _ [(26, .int .i64 x6), (4, .int .i64 x6), (5, .int .i64 x19)] _ from (At.cons hat hv0)) rfl (ov_assign rfl) s96.sub (by exact rfl)
       ·intro a w94 h95 s96 hat hF
        obtain hv0 := hF 0 26 (by decide) rfl
        obtain hv1 := hF 1 27 (by decide) rfl
        obtain hv2 := hF 2 28 (by decide) rfl
        obtain hv3 := hF 3 29 (by decide) rfl
        obtain hv4 := hF 4 30 (by decide) rfl
        obtain hv5 := hF 5 31 (by decide) rfl
        obtain hv6 := hF 6 32 (by decide) rfl
        obtain hv7 := hF 7 2 (by decide) rfl
        refine WL.at_ [(2, .int .i64 x6), (32, .string e84), (31, .pointer (some ⟨b86, o87 + Int.toNat x19 * 1, none⟩)), (30, .int .i64 x19), (29, .slice (some ⟨b86, o87, none⟩) (e69).length c82), (28, .pointer (some ⟨1, 0 + Int.toNat x6 * 1, none⟩)), (27, .int .i64 x6), (26, .int .i64 x6), (4, .int .i64 x6), (5, .int .i64 x19)] (At.cons (At.cons (At.cons (At.cons (At.cons (At.cons (At.cons (At.cons hat hv0) hv1) hv2) hv3) hv4) hv5) hv6) hv7) ?_
        have S97 := S42.trans0 s96
        refine WL.val rfl rfl rfl (ov_assign rfl) <| WL.nil <| WQ.seqN <| WC.ret <| WQ.blockRet <| WQ.thenRet <| WQ.thenRet <| WQ.blockRet <| WQ.blockRet <| WQ.thenRet <| WQ.thenRet <| WQ.blockRet <| WQ.thenRet <| WQ.ret2 rfl rfl rfl ?_
        obtain rfl := Option.some.inj HF
        exact ⟨_, rfl, h95, S97, _, _, rfl, rfl, rfl⟩
      ·replace HF := bif_f hb68 HF
       refine WC.skip <| WQ.blockN <| WC.to [0, 4, 5] [(0, .int .i64 x1), (4, .int .i64 x6), (5, .int .i64 x19)] rfl ?_
       exact J102 ⟨h39, HF, rfl, S42, Hle.refl _⟩
    ·intro J103
     refine WC.seq <| WC.region <| WL.val rfl rfl rfl (ov_move rfl) <| WL.val rfl rfl rfl (ov_move rfl) ?_
     obtain ⟨e23, he24, HF⟩ := bind_some HF
     obtain ⟨b25, o26, hA, h28, h29, ra27⟩ := RS.atO S18.sub.glob.g0 he24
     cases hA
     obtain ⟨cs30, r31, hc32⟩ := ra27
     obtain ⟨v33, rfl, rs34⟩ := r31
     refine WL.val rfl rfl rfl (ov_indexAddrA rfl rfl t_arr_101 t_size_45 h28 h29) <| WL.val rfl rfl rfl (ov_load1 rfl t_agg_45 (S18.sub.at_ _ _ _ (hc32 0 _ rfl))) ?_
     obtain ⟨A35, c36, rfl, rs37⟩ := RS.form rs34
     refine WL.val rfl rfl rfl (ov_lenL rfl t_slice_45) <| WL.val rfl rfl rfl (ov_lss rfl rfl) <| WL.nil <| WQ.seqN <| WC.cond (b := decide ((x19 : Int) < (e23.length : Int))) rfl (fun hb38 => ?_) (fun hb38 => ?_)
     ·replace HF := bif_t hb38 HF
      refine WC.skip <| WC.to [0, 4, 5] [(0, .int .i64 x1), (4, .int .i64 x6), (5, .int .i64 x19)] rfl ?_
      exact J103 ⟨h15, HF, rfl, S18, Hle.refl _⟩
     ·replace HF := bif_f hb38 HF
      refine WC.exit <| WQ.thenExit <| WQ.thenExit <| WQ.blockHit <| WQ.blockN <| WQ.seqN <| WC.region <| WL.val rfl rfl rfl (ov_move rfl) <| WL.val rfl rfl rfl (ov_add rfl rfl) <| WL.val rfl rfl rfl (ov_assign rfl) <| WL.nil <| WQ.loopN <| WP.to [0, 4] [(0, .int .i64 x1), (4, .int .i64 (IntKind.i64.wrap (x6 + 1)))] rfl ?_
      exact IHL8 j20 (Nat.le_trans (Nat.le_of_succ_le hj22) (Nat.le_refl _)) _ _ ⟨h15, IntKind.i64.wrap (x6 + 1), HF, rfl, S18, (le4).trans ((le13).trans le17)⟩
   ·exact ⟨h11, 0, HF, rfl, S14, Hle.refl _⟩
  ·intro J104
   refine WC.seq <| WC.region <| WL.val rfl rfl rfl (ov_move rfl) <| WL.val rfl rfl rfl (ov_lss rfl rfl) <| WL.nil <| WQ.seqN <| WC.cond (b := decide ((x6 : Int) < 7)) rfl (fun hb10 => ?_) (fun hb10 => ?_)
   ·replace HF := bif_t hb10 HF
    refine WC.skip <| WC.to [0, 4] [(0, .int .i64 x1), (4, .int .i64 x6)] rfl ?_
    exact J104 ⟨h2, HF, rfl, S5, Hle.refl _⟩
   ·replace HF := bif_f hb10 HF
    refine WC.exit <| WQ.thenExit <| WQ.thenExit <| WQ.blockHit <| WQ.seqN <| WC.seq <| WC.region <| WL.val rfl rfl rfl (ov_assign rfl) <| WL.val rfl rfl rfl (ov_assign rfl) <| WL.nil <| WQ.seqN <| WC.ret <| WQ.ret2 rfl rfl rfl ?_
    obtain rfl := Option.some.inj HF
    exact ⟨_, rfl, h2, S5, _, _, rfl, rfl, rfl⟩
 ·exact ⟨h0, 0, HF, rfl, S0, Hle.refl _⟩
theorem all_ref02_Sign : ∀ k j, j ≤ k → C_ref02_Sign (tie_ref02_Sign j).ref02_Sign := by
  intro k
  induction k with
  | zero =>
    intro j hj
    obtain rfl : j = 0 := by omega
    exact (fun _ _ => by intro h; cases h)
  | succ k ih =>
    intro j hj
    by_cases h : j ≤ k
    · exact ih j h
    · obtain rfl : j = k + 1 := by omega
      exact s_ref02_Sign k ih
theorem ok_ref02_Sign (k : Nat) : C_ref02_Sign (F_ref02_Sign k) := (all_ref02_Sign k k (Nat.le_refl _))

def C_ref03_Digits (φ : Int → Option ByteArray) : Prop := ∀ ⦃x1 : Int⦄ ⦃r : ByteArray⦄, φ x1 = some r → ∀ ⦃w0 : World⦄ ⦃h0 : Hp⦄, Sub h0 w0 →
  Calls Tryz.prog 37 #[.int .i64 x1] w0 fun e w1 => ∃ v, e = .returned v ∧ ∃ h1, Stp [] w0 h0 w1 h1 ∧ v = .string r
set_option maxRecDepth 20000 in
set_option maxHeartbeats 4000000 in
theorem s_ref03_Digits (k : Nat) (IH : ∀ j, j ≤ k → C_ref03_Digits (tie_ref03_Digits j).ref03_Digits) : C_ref03_Digits (m_ref03_Digits k (tie_ref03_Digits k)) := by
 intro x1 r HF w0 h0  hs0 
 have S0 : Stp [] w0 h0 w0 h0 := Stp.refl hs0 _
 refine enter (n := 36) Tryz.func37 rfl Tryz.ntmps37 rfl [(0, .int .i64 x1)] rfl <| WC.seq <| WC.region <| WL.val rfl rfl rfl (ov_assign rfl) <| WL.nil <| WQ.seqN <| WC.seq <| WC.region <| WL.val rfl rfl rfl (ov_move rfl) <| WL.val rfl rfl rfl (ov_convI rfl t_int_3 t_int_104) <| WL.val rfl rfl rfl (ov_assign rfl) <| WL.nil <| WQ.seqN <| WC.join (fun E w4 => ∃ (h3 : Hp) (x7 : Int), ref03_Digits_j1 k (tie_ref03_Digits k) x1 x7 = some r ∧ E = [(0, .int .i64 x1), (3, .int .u64 x7)] ∧ Stp [] w0 h0 w4 h3 ∧ Hle h0 h3) ?_ ?_
 ·rintro E w4 ⟨h3, x7, HF, rfl, S6, le5⟩
  refine WC.seq <| WC.region <| WL.val rfl rfl rfl (ov_move rfl) <| WL.val rfl rfl rfl (ov_rem rfl rfl (by decide)) <| WL.val rfl rfl rfl (ov_add rfl rfl) <| WL.val rfl rfl rfl (ov_convI rfl t_int_104 t_int_5) ?_
  obtain ⟨c15, hc16, HF⟩ := bind_some HF
  refine WL.buildSliceD (us := [.int .u8 (IntKind.u8.wrap (IntKind.u64.wrap (48 + (Int.tmod x7 10))))]) (cs := [.int .u8 (IntKind.u8.wrap (IntKind.u64.wrap (48 + (Int.tmod x7 10))))]) rfl rfl rfl t_slice_49 t_size_5 t_zero_5 rfl (cl_cons rfl cl_nil) rfl rfl rfl S6.sub (fun w8 h9 b10 hb11 s12 hk13 hc14 => ?_)
  have S17 := S6.trans0 s12
  have rs18 : RS h9 (.slice (some ⟨b10, 0, none⟩) 1 1) ([c15] : List UInt8) := RS.litL _ [[.int .u8 (IntKind.u8.wrap (IntKind.u64.wrap (48 + (Int.tmod x7 10))))]] rfl rfl hc14 ⟨(byte_R hc16), trivial⟩
  have ow19 := Own.lit (base := w0.heap.size) (sz := 1) (m := 1) hk13 hc14 (by rw [hb11]; exact S6.size) rfl (by decide)
  refine WL.val rfl rfl rfl (ov_bytesStr rfl t_slice_49 t_int_5 t_string_9 rs18 S17.sub) <| WL.val rfl rfl rfl (ov_assign rfl) <| WL.nil <| WQ.seqN <| WC.seq <| WC.seq <| WC.region <| WL.val rfl rfl rfl (ov_move rfl) <| WL.val rfl rfl rfl (ov_quo rfl rfl (by decide)) <| WL.val rfl rfl rfl (ov_assign rfl) <| WL.nil <| WQ.seqN <| WC.block <| WC.loop <| WP.to [0, 3, 4] [(0, .int .i64 x1), (3, .int .u64 (IntKind.u64.wrap (Int.tdiv x7 10))), (4, .string (⟨[c15].toArray⟩ : ByteArray))] rfl <| WP_rule (K := k) (fun j E w21 => ∃ (h20 : Hp) (x24 : Int) (x25 : ByteArray), (tie_ref03_Digits j).ref03_Digits_l2 x1 x24 x25 = some r ∧ E = [(0, .int .i64 x1), (3, .int .u64 x24), (4, .string x25)] ∧ Stp [] w0 h0 w21 h20 ∧ Hle h9 h20) ?_ ?_ (j := k) (Nat.le_refl _) ?_
  ·rintro E w21 ⟨_, _, _, HF, _⟩; cases HF
  ·rintro j26 hj28 IHL27 E w21 ⟨h20, x24, x25, HF, rfl, S23, le22⟩
   refine WC.join (fun E w38 => ∃ (h37 : Hp) (x41 : Int), ref03_Digits_j4 j26 (tie_ref03_Digits j26) x1 x25 x41 = some r ∧ E = [(0, .int .i64 x1), (3, .int .u64 x41), (4, .string x25)] ∧ Stp [] w0 h0 w38 h37 ∧ Hle h20 h37) ?_ ?_
   ·rintro E w38 ⟨h37, x41, HF, rfl, S40, le39⟩
    refine WC.seq <| WC.block <| WC.region <| WL.val rfl rfl rfl (ov_move rfl) <| WL.val rfl rfl rfl (ov_rem rfl rfl (by decide)) <| WL.val rfl rfl rfl (ov_add rfl rfl) <| WL.val rfl rfl rfl (ov_convI rfl t_int_104 t_int_5) ?_
    obtain ⟨c49, hc50, HF⟩ := bind_some HF
    refine WL.buildSliceD (us := [.int .u8 (IntKind.u8.wrap (IntKind.u64.wrap (48 + (Int.tmod x41 10))))]) (cs := [.int .u8 (IntKind.u8.wrap (IntKind.u64.wrap (48 + (Int.tmod x41 10))))]) rfl rfl rfl t_slice_49 t_size_5 t_zero_5 rfl (cl_cons rfl cl_nil) rfl rfl rfl S40.sub (fun w42 h43 b44 hb45 s46 hk47 hc48 => ?_)
    have S51 := S40.trans0 s46
    have rs52 : RS h43 (.slice (some ⟨b44, 0, none⟩) 1 1) ([c49] : List UInt8) := RS.litL _ [[.int .u8 (IntKind.u8.wrap (IntKind.u64.wrap (48 + (Int.tmod x41 10))))]] rfl rfl hc48 ⟨(byte_R hc50), trivial⟩
    have ow53 := Own.lit (base := w0.heap.size) (sz := 1) (m := 1) hk47 hc48 (by rw [hb45]; exact S40.size) rfl (by decide)
    refine WL.val rfl rfl rfl (ov_bytesStr rfl t_slice_49 t_int_5 t_string_9 rs52 S51.sub) <| WL.val rfl rfl rfl (ov_move rfl) ?_
    obtain ⟨hl54, HF⟩ := ite_none HF
    refine WL.val rfl rfl rfl (ov_addS rfl rfl hl54) <| WL.val rfl rfl rfl (ov_assign rfl) <| WL.nil <| WQ.blockN <| WQ.seqN <| WC.region <| WL.val rfl rfl rfl (ov_move rfl) <| WL.val rfl rfl rfl (ov_quo rfl rfl (by decide)) <| WL.val rfl rfl rfl (ov_assign rfl) <| WL.nil <| WQ.loopN <| WP.to [0, 3, 4] [(0, .int .i64 x1), (3, .int .u64 (IntKind.u64.wrap (Int.tdiv x41 10))), (4, .string ((⟨[c49].toArray⟩ : ByteArray) ++ x25))] rfl ?_
    exact IHL27 j26 (Nat.le_refl _) _ _ ⟨h43, IntKind.u64.wrap (Int.tdiv x41 10), (⟨[c49].toArray⟩ : ByteArray) ++ x25, HF, rfl, S51, (le22).trans ((le39).trans s46.le)⟩
   ·intro J55
    refine WC.seq <| WC.region <| WL.val rfl rfl rfl (ov_move rfl) <| WL.val rfl rfl rfl (ov_gtr rfl rfl) <| WL.nil <| WQ.seqN <| WC.cond (b := decide ((0 : Int) < x24)) rfl (fun hb29 => ?_) (fun hb29 => ?_)
    ·replace HF := bif_t hb29 HF
     refine WC.skip <| WC.to [0, 3, 4] [(0, .int .i64 x1), (3, .int .u64 x24), (4, .string x25)] rfl ?_
     exact J55 ⟨h20, x24, HF, rfl, S23, Hle.refl _⟩
    ·replace HF := bif_f hb29 HF
     refine WC.exit <| WQ.thenExit <| WQ.thenExit <| WQ.blockHit <| WQ.seqN <| WC.join (fun E w33 => ∃ (h32 : Hp), ref03_Digits_j3 j26 (tie_ref03_Digits j26) x25 = some r ∧ E = [(4, .string x25)] ∧ Stp [] w0 h0 w33 h32 ∧ Hle h20 h32) ?_ ?_
     ·rintro E w33 ⟨h32, HF, rfl, S35, le34⟩
      refine WC.seq <| WC.region <| WL.val rfl rfl rfl (ov_move rfl) <| WL.val rfl rfl rfl (ov_assign rfl) <| WL.nil <| WQ.seqN <| WC.ret <| WQ.ret1 rfl rfl ?_
      obtain rfl := Option.some.inj HF
      exact ⟨_, rfl, h32, S35, rfl⟩
     ·intro J36
      refine WC.seq <| WC.region <| WL.val rfl rfl rfl (ov_move rfl) <| WL.val rfl rfl rfl (ov_lss rfl rfl) <| WL.nil <| WQ.seqN <| WC.cond (b := decide ((x1 : Int) < 0)) rfl (fun hb30 => ?_) (fun hb30 => ?_)
      ·replace HF := bif_t hb30 HF
       refine WC.seq <| WC.region <| WL.val rfl rfl rfl (ov_move rfl) ?_
       obtain ⟨hl31, HF⟩ := ite_none HF
       refine WL.val rfl rfl rfl (ov_addS rfl rfl hl31) <| WL.val rfl rfl rfl (ov_assign rfl) <| WL.nil <| WQ.seqN <| WC.ret <| WQ.thenRet <| WQ.ret1 rfl rfl ?_
       obtain rfl := Option.some.inj HF
       exact ⟨_, rfl, h20, S23, rfl⟩
      ·replace HF := bif_f hb30 HF
       refine WC.skip <| WC.to [4] [(4, .string x25)] rfl ?_
       exact J36 ⟨h20, HF, rfl, S23, Hle.refl _⟩
  ·exact ⟨h9, IntKind.u64.wrap (Int.tdiv x7 10), (⟨[c15].toArray⟩ : ByteArray), HF, rfl, S17, Hle.refl _⟩
 ·intro J56
  refine WC.seq <| WC.region <| WL.val rfl rfl rfl (ov_move rfl) <| WL.val rfl rfl rfl (ov_lss rfl rfl) <| WL.nil <| WQ.seqN <| WC.cond (b := decide ((x1 : Int) < 0)) rfl (fun hb2 => ?_) (fun hb2 => ?_)
  ·replace HF := bif_t hb2 HF
   refine WC.region <| WL.val rfl rfl rfl (ov_move rfl) <| WL.val rfl rfl rfl (ov_sub rfl rfl) <| WL.val rfl rfl rfl (ov_assign rfl) <| WL.nil <| WC.to [0, 3] [(0, .int .i64 x1), (3, .int .u64 (IntKind.u64.wrap (0 - (IntKind.u64.wrap x1))))] rfl ?_
   exact J56 ⟨h0, IntKind.u64.wrap (0 - (IntKind.u64.wrap x1)), HF, rfl, S0, Hle.refl _⟩
  ·replace HF := bif_f hb2 HF
   refine WC.skip <| WC.to [0, 3] [(0, .int .i64 x1), (3, .int .u64 (IntKind.u64.wrap x1))] rfl ?_
   exact J56 ⟨h0, IntKind.u64.wrap x1, HF, rfl, S0, Hle.refl _⟩
theorem all_ref03_Digits : ∀ k j, j ≤ k → C_ref03_Digits (tie_ref03_Digits j).ref03_Digits := by
  intro k
  induction k with
  | zero =>
    intro j hj
    obtain rfl : j = 0 := by omega
    exact (fun _ _ => by intro h; cases h)
  | succ k ih =>
    intro j hj
    by_cases h : j ≤ k
    · exact ih j h
    · obtain rfl : j = k + 1 := by omega
      exact s_ref03_Digits k ih
theorem ok_ref03_Digits (k : Nat) : C_ref03_Digits (F_ref03_Digits k) := (all_ref03_Digits k k (Nat.le_refl _))

def C_ref03_Const (φ : Int → Int → Option (ByteArray × Bool)) : Prop := ∀ ⦃x1 : Int⦄ ⦃x2 : Int⦄ ⦃r : ByteArray × Bool⦄, φ x1 x2 = some r → ∀ ⦃w0 : World⦄ ⦃h0 : Hp⦄, Sub h0 w0 →
  Calls Tryz.prog 18 #[.int .i64 x1, .int .i64 x2] w0 fun e w1 => ∃ v, e = .returned v ∧ ∃ h1, Stp [] w0 h0 w1 h1 ∧ (∃ u0 u1 : Value, v = .tuple #[u0, u1] ∧ (u0 = .string r.1) ∧ (u1 = .bool r.2))
set_option maxRecDepth 20000 in
set_option maxHeartbeats 4000000 in
theorem s_ref03_Const (k : Nat) : C_ref03_Const (F_ref03_Const k) := by
 intro x1 x2 r HF w0 h0  hs0 
 have S0 : Stp [] w0 h0 w0 h0 := Stp.refl hs0 _
 refine enter (n := 36) Tryz.func18 rfl Tryz.ntmps18 rfl [(0, .int .i64 x1), (1, .int .i64 x2)] rfl <| WC.seq <| WC.region <| WL.val rfl rfl rfl (ov_assign rfl) <| WL.val rfl rfl rfl (ov_assign rfl) <| WL.nil <| WQ.seqN <| WC.join (fun E w21 => ∃ (h20 : Hp), ref03_Const_j2 k x1 x2 = some r ∧ E = [(0, .int .i64 x1), (1, .int .i64 x2)] ∧ Stp [] w0 h0 w21 h20 ∧ Hle h0 h20) ?_ ?_
 ·rintro E w21 ⟨h20, HF, rfl, S23, le22⟩
  refine WC.seq <| WC.region <| WL.val rfl rfl rfl (ov_move rfl) ?_
  obtain ⟨r24, hr25, HF⟩ := bind_some HF
  refine WL.call rfl rfl rfl (oc_func (vs := [.int .i64 x2]) rfl t_ent_37) (ok_ref03_Digits _ hr25 S23.sub) ?_
  rintro _ w27 ⟨h28, s29, rfl⟩
  have S30 := S23.trans0 s29
  refine WL.val rfl rfl rfl (ov_move rfl) <| WL.val rfl rfl rfl (ov_eql rfl rfl) <| WL.val rfl rfl rfl (ov_move rfl) <| WL.split 28 (b := (x1 : Int) == 2) rfl (fun hb31 => ?_) (fun hb31 => ?_)
  ·replace HF := bif_t hb31 HF
   refine WL.val rfl rfl rfl (ov_move rfl) <| WL.val rfl rfl rfl (ov_geq rfl rfl) <| WL.val rfl rfl rfl (ov_pickT rfl rfl) <| WL.val rfl rfl rfl (ov_move rfl) <| WL.split 32 (b := decide (((-2147483647) : Int) ≤ x2)) rfl (fun hb32 => ?_) (fun hb32 => ?_)
   ·replace HF := bif_t hb32 HF
    refine WL.val rfl rfl rfl (ov_move rfl) <| WL.val rfl rfl rfl (ov_leq rfl rfl) <| WL.val rfl rfl rfl (ov_pickT rfl rfl) <| WL.val rfl rfl rfl (ov_assign rfl) <| WL.val rfl rfl rfl (ov_assign rfl) <| WL.nil <| WQ.seqN <| WC.ret <| WQ.ret2 rfl rfl rfl ?_
    obtain rfl := Option.some.inj HF
    exact ⟨_, rfl, h28, S30, _, _, rfl, rfl, rfl⟩
   ·replace HF := bif_f hb32 HF
    refine WL.pass rfl rfl rfl <| WL.pass rfl rfl rfl <| WL.val rfl rfl rfl (ov_pickF rfl rfl) <| WL.val rfl rfl rfl (ov_assign rfl) <| WL.val rfl rfl rfl (ov_assign rfl) <| WL.nil <| WQ.seqN <| WC.ret <| WQ.ret2 rfl rfl rfl ?_
    obtain rfl := Option.some.inj HF
    exact ⟨_, rfl, h28, S30, _, _, rfl, rfl, rfl⟩
  ·replace HF := bif_f hb31 HF
   refine WL.pass rfl rfl rfl <| WL.pass rfl rfl rfl <| WL.val rfl rfl rfl (ov_pickF rfl rfl) <| WL.val rfl rfl rfl (ov_move rfl) <| WL.pass rfl rfl rfl <| WL.pass rfl rfl rfl <| WL.val rfl rfl rfl (ov_pickF rfl rfl) <| WL.val rfl rfl rfl (ov_assign rfl) <| WL.val rfl rfl rfl (ov_assign rfl) <| WL.nil <| WQ.seqN <| WC.ret <| WQ.ret2 rfl rfl rfl ?_
   obtain rfl := Option.some.inj HF
   exact ⟨_, rfl, h28, S30, _, _, rfl, rfl, rfl⟩
 ·intro J33
  refine WC.seq <| WC.region <| WL.val rfl rfl rfl (ov_move rfl) <| WL.nil <| WQ.seqN <| WC.block <| WC.seq <| WC.region <| WL.val rfl rfl rfl (ov_eql rfl rfl) <| WL.val rfl rfl rfl (ov_assign rfl) <| WL.nil <| WQ.seqN <| WC.cond (b := (x1 : Int) == 1) rfl (fun hb3 => ?_) (fun hb3 => ?_)
  ·replace HF := bif_t hb3 HF
   refine WC.join (fun E w6 => ∃ (h5 : Hp), ref03_Const_j1 k x2 = some r ∧ E = [(1, .int .i64 x2)] ∧ Stp [] w0 h0 w6 h5 ∧ Hle h0 h5) ?_ ?_
   ·rintro E w6 ⟨h5, HF, rfl, S8, le7⟩
    refine WC.seq <| WC.region <| WL.val rfl rfl rfl (ov_move rfl) <| WL.val rfl rfl rfl (ov_eql rfl rfl) <| WL.val rfl rfl rfl (ov_assign rfl) <| WL.val rfl rfl rfl (ov_assign rfl) <| WL.nil <| WQ.seqN <| WC.ret <| WQ.blockRet <| WQ.thenRet <| WQ.ret2 rfl rfl rfl ?_
    obtain rfl := Option.some.inj HF
    exact ⟨_, rfl, h5, S8, _, _, rfl, rfl, rfl⟩
   ·intro J9
    refine WC.seq <| WC.region <| WL.val rfl rfl rfl (ov_move rfl) <| WL.val rfl rfl rfl (ov_eql rfl rfl) <| WL.nil <| WQ.seqN <| WC.cond (b := (x2 : Int) == 1) rfl (fun hb4 => ?_) (fun hb4 => ?_)
    ·replace HF := bif_t hb4 HF
     refine WC.seq <| WC.region <| WL.val rfl rfl rfl (ov_assign rfl) <| WL.val rfl rfl rfl (ov_assign rfl) <| WL.nil <| WQ.seqN <| WC.ret <| WQ.thenRet <| WQ.blockRet <| WQ.thenRet <| WQ.ret2 rfl rfl rfl ?_
     obtain rfl := Option.some.inj HF
     exact ⟨_, rfl, h0, S0, _, _, rfl, rfl, rfl⟩
    ·replace HF := bif_f hb4 HF
     refine WC.skip <| WC.to [1] [(1, .int .i64 x2)] rfl ?_
     exact J9 ⟨h0, HF, rfl, S0, Hle.refl _⟩
  ·replace HF := bif_f hb3 HF
   refine WC.seq <| WC.region <| WL.val rfl rfl rfl (ov_eql rfl rfl) <| WL.val rfl rfl rfl (ov_assign rfl) <| WL.nil <| WQ.seqN <| WC.cond (b := (x1 : Int) == 3) rfl (fun hb10 => ?_) (fun hb10 => ?_)
   ·replace HF := bif_t hb10 HF
    refine WC.seq <| WC.region <| WL.val rfl rfl rfl (ov_move rfl) ?_
    obtain ⟨r11, hr12, HF⟩ := bind_some HF
    refine WL.call rfl rfl rfl (oc_func (vs := [.int .i64 x2]) rfl t_ent_37) (ok_ref03_Digits _ hr12 S0.sub) ?_
    rintro _ w14 ⟨h15, s16, rfl⟩
    have S17 := S0.trans0 s16
    obtain ⟨hl18, HF⟩ := ite_none HF
    refine WL.val rfl rfl rfl (ov_addS rfl rfl hl18) <| WL.val rfl rfl rfl (ov_move rfl) <| WL.val rfl rfl rfl (ov_geq rfl rfl) <| WL.val rfl rfl rfl (ov_move rfl) <| WL.split 20 (b := decide ((0 : Int) ≤ x2)) rfl (fun hb19 => ?_) (fun hb19 => ?_)
    ·replace HF := bif_t hb19 HF
     refine WL.val rfl rfl rfl (ov_move rfl) <| WL.val rfl rfl rfl (ov_leq rfl rfl) <| WL.val rfl rfl rfl (ov_pickT rfl rfl) <| WL.val rfl rfl rfl (ov_assign rfl) <| WL.val rfl rfl rfl (ov_assign rfl) <| WL.nil <| WQ.seqN <| WC.ret <| WQ.blockRet <| WQ.thenRet <| WQ.ret2 rfl rfl rfl ?_
     obtain rfl := Option.some.inj HF
     exact ⟨_, rfl, h15, S17, _, _, rfl, rfl, rfl⟩
    ·replace HF := bif_f hb19 HF
     refine WL.pass rfl rfl rfl <| WL.pass rfl rfl rfl <| WL.val rfl rfl rfl (ov_pickF rfl rfl) <| WL.val rfl rfl rfl (ov_assign rfl) <| WL.val rfl rfl rfl (ov_assign rfl) <| WL.nil <| WQ.seqN <| WC.ret <| WQ.blockRet <| WQ.thenRet <| WQ.ret2 rfl rfl rfl ?_
     obtain rfl := Option.some.inj HF
     exact ⟨_, rfl, h15, S17, _, _, rfl, rfl, rfl⟩
   ·replace HF := bif_f hb10 HF
    refine WC.skip <| WQ.blockN <| WC.to [0, 1] [(0, .int .i64 x1), (1, .int .i64 x2)] rfl ?_
    exact J33 ⟨h0, HF, rfl, S0, Hle.refl _⟩
theorem ok_ref03_Const (k : Nat) : C_ref03_Const (F_ref03_Const k) := s_ref03_Const k

def C_ref03_two (φ : Ex → Option (Int × Bool)) : Prop := ∀ ⦃x1 : Ex⦄ ⦃r : Int × Bool⦄, φ x1 = some r → ∀ ⦃w0 : World⦄ ⦃h0 : Hp⦄ ⦃cs2 : List Value⦄, Sub h0 w0 → Rp.R h0 x1 cs2 →
  Calls Tryz.prog 30 #[.agg cs2.toArray] w0 fun e w1 => ∃ v, e = .returned v ∧ ∃ h1, Stp [] w0 h0 w1 h1 ∧ (∃ u0 u1 : Value, v = .tuple #[u0, u1] ∧ (u0 = .int .i64 r.1) ∧ (u1 = .bool r.2))
set_option maxRecDepth 20000 in
set_option maxHeartbeats 4000000 in
theorem s_ref03_two (k : Nat) : C_ref03_two (F_ref03_two k) := by
 intro x1 r HF w0 h0 cs2 hs0 r3
 have S0 : Stp [] w0 h0 w0 h0 := Stp.refl hs0 _
 refine enter (n := 15) Tryz.func30 rfl Tryz.ntmps30 rfl [(0, .agg cs2.toArray)] rfl <| WC.seq <| WC.region ?_
 obtain ⟨v4, rfl, rs5⟩ := rp_Ex.1 r3
 refine WL.box (cs := [.int .i64 x1.op, .int .i64 x1.kind, .int .i64 x1.n, .string x1.s, .string x1.f, v4]) rfl rfl rfl rfl S0.sub (fun w6 b7 hb8 s9 ob10 => ?_)
 have g11 : w0.heap.size ≤ b7 := by rw [hb8]; exact S0.size
 have S12 := S0.trans0 s9
 refine WL.val rfl rfl rfl (ov_assign rfl) <| WL.val rfl rfl rfl (ov_assign rfl) <| WL.nil <| WQ.seqN <| WC.seq <| WC.region <| WL.val rfl rfl rfl (ov_fieldAddr rfl t_field_32_0) <| WL.val rfl rfl rfl (ov_load1 rfl t_agg_3 (OB.cell ob10 (j := 0) rfl)) ?_
 obtain ⟨r13, hr14, HF⟩ := bind_some HF
 refine WL.call rfl rfl rfl (oc_func (vs := [.int .i64 x1.op]) rfl t_ent_32) (ok_ref02_Sign _ hr14 S12.sub) ?_
 rintro _ w16 ⟨h17, s18, _, _, rfl, rfl, rfl⟩
 have S19 := S12.trans0 s18
 refine WL.val rfl rfl rfl (ov_move rfl) <| WL.val rfl rfl rfl (ov_extract rfl rfl) <| WL.val rfl rfl rfl (ov_extract rfl rfl) <| WL.val rfl rfl rfl (ov_assign rfl) <| WL.val rfl rfl rfl (ov_assign rfl) <| WL.nil <| WQ.seqN <| WC.seq <| WC.region <| WL.val rfl rfl rfl (ov_move rfl) <| WL.val rfl rfl rfl (ov_move rfl) <| WL.val rfl rfl rfl (ov_neqS rfl rfl) <| WL.val rfl rfl rfl (ov_assign rfl) <| WL.val rfl rfl rfl (ov_assign rfl) <| WL.nil <| WQ.seqN <| WC.ret <| WQ.ret2 rfl rfl rfl ?_
 obtain rfl := Option.some.inj HF
 exact ⟨_, rfl, h17, S19, _, _, rfl, rfl, rfl⟩
theorem ok_ref03_two (k : Nat) : C_ref03_two (F_ref03_two k) := s_ref03_two k

def C_ref03_Expr (φ : Ex → Option ByteArray) : Prop := ∀ ⦃x1 : Ex⦄ ⦃r : ByteArray⦄, φ x1 = some r → ∀ ⦃w0 : World⦄ ⦃h0 : Hp⦄ ⦃cs2 : List Value⦄, Sub h0 w0 → Rp.R h0 x1 cs2 →
  Calls Tryz.prog 16 #[.agg cs2.toArray] w0 fun e w1 => ∃ v, e = .returned v ∧ ∃ h1, Stp [] w0 h0 w1 h1 ∧ v = .string r
def C_ref03_Exprs (φ : (List Ex) → Option ByteArray) : Prop := ∀ ⦃xs1 : List Ex⦄ ⦃r : ByteArray⦄, φ xs1 = some r → ∀ ⦃w0 : World⦄ ⦃h0 : Hp⦄ ⦃v2 : Value⦄, Sub h0 w0 → RS h0 v2 xs1 →
  Calls Tryz.prog 29 #[v2] w0 fun e w1 => ∃ v, e = .returned v ∧ ∃ h1, Stp [] w0 h0 w1 h1 ∧ v = .string r
def C_ref03_operand (φ : Ex → Bool → Option ByteArray) : Prop := ∀ ⦃x1 : Ex⦄ ⦃x4 : Bool⦄ ⦃r : ByteArray⦄, φ x1 x4 = some r → ∀ ⦃w0 : World⦄ ⦃h0 : Hp⦄ ⦃cs2 : List Value⦄, Sub h0 w0 → Rp.R h0 x1 cs2 →
  Calls Tryz.prog 31 #[.agg cs2.toArray, .bool x4] w0 fun e w1 => ∃ v, e = .returned v ∧ ∃ h1, Stp [] w0 h0 w1 h1 ∧ v = .string r
set_option maxRecDepth 20000 in
set_option maxHeartbeats 4000000 in
theorem s_ref03_Expr (k : Nat) (IH : ∀ j, j ≤ k → C_ref03_Expr (tie_ref03_Expr j).ref03_Expr ∧ C_ref03_Exprs (tie_ref03_Expr j).ref03_Exprs ∧ C_ref03_operand (tie_ref03_Expr j).ref03_operand) : C_ref03_Expr (m_ref03_Expr k (tie_ref03_Expr k)) := by
 intro x1 r HF w0 h0 cs2 hs0 r3
 have S0 : Stp [] w0 h0 w0 h0 := Stp.refl hs0 _
 refine enter (n := 143) Tryz.func16 rfl Tryz.ntmps16 rfl [(0, .agg cs2.toArray)] rfl <| WC.seq <| WC.region ?_
 obtain ⟨v4, rfl, rs5⟩ := rp_Ex.1 r3
 refine WL.box (cs := [.int .i64 x1.op, .int .i64 x1.kind, .int .i64 x1.n, .string x1.s, .string x1.f, v4]) rfl rfl rfl rfl S0.sub (fun w6 b7 hb8 s9 ob10 => ?_)
 have g11 : w0.heap.size ≤ b7 := by rw [hb8]; exact S0.size
 have S12 := S0.trans0 s9
 refine WL.val rfl rfl rfl (ov_assign rfl) <| WL.nil <| WQ.seqN <| WC.join (fun E w136 => ∃ (h135 : Hp), ref03_Expr_j1 k (tie_ref03_Expr k) x1 = some r ∧ E = [(1, .pointer (some ⟨b7, 0, none⟩))] ∧ Stp [] w0 h0 w136 h135 ∧ Hle h0 h135 ∧ OB w136 h135 b7 32 [.int .i64 x1.op, .int .i64 x1.kind, .int .i64 x1.n, .string x1.s, .string x1.f, v4]) ?_ ?_
 ·rintro E w136 ⟨h135, HF, rfl, S138, le137, ob139⟩
  refine WC.seq <| WC.region <| WL.val rfl rfl rfl (ov_fieldAddr rfl t_field_32_0) <| WL.val rfl rfl rfl (ov_load1 rfl t_agg_3 (OB.cell ob139 (j := 0) rfl)) ?_
  obtain ⟨r140, hr141, HF⟩ := bind_some HF
  refine WL.call rfl rfl rfl (oc_func (vs := [.int .i64 x1.op]) rfl t_ent_32) (ok_ref02_Sign _ hr141 S138.sub) ?_
  rintro _ w143 ⟨h144, s145, _, _, rfl, rfl, rfl⟩
  have S146 := S138.trans0 s145
  refine WL.val rfl rfl rfl (ov_move rfl) <| WL.val rfl rfl rfl (ov_extract rfl rfl) <| WL.val rfl rfl rfl (ov_extract rfl rfl) <| WL.val rfl rfl rfl (ov_assign rfl) <| WL.val rfl rfl rfl (ov_assign rfl) <| WL.nil <| WQ.seqN <| WC.seq <| WC.region <| WL.val rfl rfl rfl (ov_fieldAddr rfl t_field_32_5) ?_
  have ob147 := (ob139.step0 s145)
  refine WL.val rfl rfl rfl (ov_load1 rfl t_agg_30 (OB.cell ob147 (j := 5) rfl)) ?_
  obtain ⟨A148, c149, rfl, rs150⟩ := RS.form (rs5.mono ((s9.le).trans ((le137).trans s145.le)))
  obtain ⟨e151, he152, HF⟩ := bind_some HF
  obtain ⟨b153, o154, rfl, h156, h157, ra155⟩ := RS.atO rs150 he152
  obtain ⟨cs158, r159, hc160⟩ := ra155
  refine WL.val rfl rfl rfl (ov_indexAddr rfl rfl t_slice_30 t_size_32 h156 h157) <| WL.val rfl rfl rfl (ov_loadN (cs := cs158) rfl t_agg_32 (by rw [Rp.len r159]; exact t_size_32) (fun j v hv => S146.sub.at_ _ _ _ (hc160 j v hv))) ?_
  obtain ⟨r161, hr162, HF⟩ := bind_some HF
  refine WL.call rfl rfl rfl (oc_func (vs := [.agg cs158.toArray]) rfl t_ent_30) (ok_ref03_two _ hr162 S146.sub r159) ?_
  rintro _ w164 ⟨h165, s166, _, _, rfl, rfl, rfl⟩
  have S167 := S146.trans0 s166
  refine WL.val rfl rfl rfl (ov_move rfl) <| WL.val rfl rfl rfl (ov_extract rfl rfl) <| WL.val rfl rfl rfl (ov_extract rfl rfl) <| WL.val rfl rfl rfl (ov_assign rfl) <| WL.val rfl rfl rfl (ov_assign rfl) <| WL.nil <| WQ.seqN <| WC.seq <| WC.region <| WL.val rfl rfl rfl (ov_fieldAddr rfl t_field_32_5) ?_
  have ob168 := (ob147.step0 s166)
  refine WL.val rfl rfl rfl (ov_load1 rfl t_agg_30 (OB.cell ob168 (j := 5) rfl)) ?_
  obtain ⟨e169, he170, HF⟩ := bind_some HF
  obtain ⟨b171, o172, hA, h174, h175, ra173⟩ := RS.atO (rs150.mono (s166.le)) he170
  obtain ⟨rfl, rfl⟩ := some_addr hA
  obtain ⟨cs176, r177, hc178⟩ := ra173
  refine WL.val rfl rfl rfl (ov_indexAddr rfl rfl t_slice_30 t_size_32 h174 h175) <| WL.val rfl rfl rfl (ov_loadN (cs := cs176) rfl t_agg_32 (by rw [Rp.len r177]; exact t_size_32) (fun j v hv => S167.sub.at_ _ _ _ (hc178 j v hv))) ?_
  obtain ⟨r179, hr180, HF⟩ := bind_some HF
  refine WL.call rfl rfl rfl (oc_func (vs := [.agg cs176.toArray]) rfl t_ent_30) (ok_ref03_two _ hr180 S167.sub r177) ?_
  rintro _ w182 ⟨h183, s184, _, _, rfl, rfl, rfl⟩
  have S185 := S167.trans0 s184
  refine WL.val rfl rfl rfl (ov_move rfl) <| WL.val rfl rfl rfl (ov_extract rfl rfl) <| WL.val rfl rfl rfl (ov_extract rfl rfl) <| WL.val rfl rfl rfl (ov_assign rfl) <| WL.val rfl rfl rfl (ov_assign rfl) <| WL.nil <| WQ.seqN <| WC.seq ?_
  obtain ⟨e186, he187, HF⟩ := bind_some HF
  obtain ⟨b188, o189, hA, h191, h192, ra190⟩ := RS.atO (rs150.mono ((s166.le).trans s184.le)) he187
  obtain ⟨rfl, rfl⟩ := some_addr hA
  obtain ⟨cs193, r194, hc195⟩ := ra190
  refine bool_cases (b := r161.2) (fun hb196 => ?_) (fun hb196 => ?_)
  ·replace HF := bif_t hb196 HF
   obtain ⟨r197, hr198, HF⟩ := bind_some HF
   obtain ⟨hl199, HF⟩ := ite_none HF
   obtain ⟨hl200, HF⟩ := ite_none HF
   obtain ⟨hl201, HF⟩ := ite_none HF
   obtain ⟨e202, he203, HF⟩ := bind_some HF
   obtain ⟨b204, o205, hA, h207, h208, ra206⟩ := RS.atO (rs150.mono ((s166.le).trans s184.le)) he203
   obtain ⟨rfl, rfl⟩ := some_addr hA
   obtain ⟨cs209, r210, hc211⟩ := ra206
   refine bool_cases (b := r179.2) (fun hb212 => ?_) (fun hb212 => ?_)
   ·replace HF := bif_t hb212 HF
    obtain ⟨r213, hr214, HF⟩ := bind_some HF
    refine WC.drawn (m := 26) [(1, .pointer (some ⟨b7, 0, none⟩)), (9, .int .i64 r140.1), (10, .string r140.2), (11, .int .i64 r161.1), (12, .bool r161.2), (13, .int .i64 r179.1), (14, .bool r179.2)] [1, 9, 10, 11, 12, 13, 14] rfl (fun i v w h => match i with | 0 => v = .pointer (some ⟨b7, 5, none⟩) | 1 => v = .slice (some ⟨b153, o154, none⟩) (x1.args).length c149 | 2 => v = .pointer (some ⟨b153, o154 + Int.toNat 0 * 6, none⟩) | 3 => v = .agg cs193.toArray | 4 => v = .bool r161.2 | 5 => v = .bool true | 6 => v = .int .i64 r161.1 | 7 => v = .int .i64 r140.1 | 8 => v = .bool (decide ((r161.1 : Int) < r140.1)) | 9 => v = .bool (decide ((r161.1 : Int) < r140.1)) | 10 => v = .string r197 | 11 => v = .string (r197 ++ (⟨#[32]⟩ : ByteArray)) | 12 => v = .string r140.2 | 13 => v = .string ((r197 ++ (⟨#[32]⟩ : ByteArray)) ++ r140.2) | 14 => v = .string (((r197 ++ (⟨#[32]⟩ : ByteArray)) ++ r140.2) ++ (⟨#[32]⟩ : ByteArray)) | 15 => v = .pointer (some ⟨b7, 5, none⟩) | 16 => v = .slice (some ⟨b153, o154, none⟩) (x1.args).length c149 | 17 => v = .pointer (some ⟨b153, o154 + Int.toNat 1 * 6, none⟩) | 18 => v = .agg cs209.toArray | 19 => v = .bool r179.2 | 20 => v = .bool true | 21 => v = .int .i64 r179.1 | 22 => v = .int .i64 r140.1 | 23 => v = .bool (decide ((r179.1 : Int) ≤ r140.1)) | 24 => v = .bool (decide ((r179.1 : Int) ≤ r140.1)) | 25 => v = .string r213 | _ => True) t_mixed S185.sub rfl rfl rfl rfl rfl ?_ ?_ ?_
    ·intro i v w h w2 h2 hΦ hst
     match i, hΦ with
     | 0, hΦ => exact hΦ
     | 1, hΦ => exact hΦ
     | 2, hΦ => exact hΦ
     | 3, hΦ => exact hΦ
     | 4, hΦ => exact hΦ
     | 5, hΦ => exact hΦ
     | 6, hΦ => exact hΦ
     | 7, hΦ => exact hΦ
     | 8, hΦ => exact hΦ
     | 9, hΦ => exact hΦ
     | 10, hΦ => exact hΦ
     | 11, hΦ => exact hΦ
     | 12, hΦ => exact hΦ
     | 13, hΦ => exact hΦ
     | 14, hΦ => exact hΦ
     | 15, hΦ => exact hΦ
     | 16, hΦ => exact hΦ
     | 17, hΦ => exact hΦ
     | 18, hΦ => exact hΦ
     | 19, hΦ => exact hΦ
     | 20, hΦ => exact hΦ
     | 21, hΦ => exact hΦ
     | 22, hΦ => exact hΦ
     | 23, hΦ => exact hΦ
     | 24, hΦ => exact hΦ
     | 25, hΦ => exact hΦ
     | i + 26, _ => exact trivial
    ·refine ⟨?_, ?_, ?_, ?_, ?_, ?_, ?_, ?_, ?_, ?_, ?_, ?_, ?_, ?_, ?_, ?_, ?_, ?_, ?_, ?_, ?_, ?_, ?_, ?_, ?_, ?_, trivial⟩
     ·intro a w215 h216 s217 hat hF
      exact front_val (show At _ [(1, .pointer (some ⟨b7, 0, none⟩)), (9, .int .i64 r140.1), (10, .string r140.2), (11, .int .i64 r161.1), (12, .bool r161.2), (13, .int .i64 r179.1), (14, .bool r179.2)] _ from hat) rfl (ov_fieldAddr rfl t_field_32_5) s217.sub (by exact rfl)
     ·intro a w215 h216 s217 hat hF
      obtain hv0 := hF 0 116 rfl rfl
      have ob218 := ((ob168.step0 s184).step0 s217)
      exact front_val (show At _ [(116, .pointer (some ⟨b7, 5, none⟩)), (1, .pointer (some ⟨b7, 0, none⟩)), (9, .int .i64 r140.1), (10, .string r140.2), (11, .int .i64 r161.1), (12, .bool r161.2), (13, .int .i64 r179.1), (14, .bool r179.2)] _ from (At.cons hat hv0)) rfl (ov_load1 rfl t_agg_30 (OB.cell ob218 (j := 5) rfl)) s217.sub (by exact rfl)
     ·intro a w215 h216 s217 hat hF
      obtain hv1 := hF 1 117 rfl rfl
      exact front_val (show At _ [(117, .slice (some ⟨b153, o154, none⟩) (x1.args).length c149), (1, .pointer (some ⟨b7, 0, none⟩)), (9, .int .i64 r140.1), (10, .string r140.2), (11, .int .i64 r161.1), (12, .bool r161.2), (13, .int .i64 r179.1), (14, .bool r179.2)] _ from (At.cons hat hv1)) rfl (ov_indexAddr rfl rfl t_slice_30 t_size_32 h191 h192) s217.sub (by exact rfl)
     ·intro a w215 h216 s217 hat hF
      obtain hv2 := hF 2 118 rfl rfl
      exact front_val (show At _ [(118, .pointer (some ⟨b153, o154 + Int.toNat 0 * 6, none⟩)), (1, .pointer (some ⟨b7, 0, none⟩)), (9, .int .i64 r140.1), (10, .string r140.2), (11, .int .i64 r161.1), (12, .bool r161.2), (13, .int .i64 r179.1), (14, .bool r179.2)] _ from (At.cons hat hv2)) rfl (ov_loadN (cs := cs193) rfl t_agg_32 (by rw [Rp.len (Rp.mono (s217.le) r194)]; exact t_size_32) (fun j v hv => s217.sub.at_ _ _ _ ((fun i v hv => (s217.le).1 _ _ _ (hc195 i v hv)) j v hv))) s217.sub (by exact rfl)
     ·intro a w215 h216 s217 hat hF
      exact front_val (show At _ [(1, .pointer (some ⟨b7, 0, none⟩)), (9, .int .i64 r140.1), (10, .string r140.2), (11, .int .i64 r161.1), (12, .bool r161.2), (13, .int .i64 r179.1), (14, .bool r179.2)] _ from hat) rfl (ov_move rfl) s217.sub (by exact rfl)
     ·intro a w215 h216 s217 hat hF
      obtain hv4 := hF 4 120 rfl rfl
      exact front_val (show At _ [(120, .bool r161.2), (1, .pointer (some ⟨b7, 0, none⟩)), (9, .int .i64 r140.1), (10, .string r140.2), (11, .int .i64 r161.1), (12, .bool r161.2), (13, .int .i64 r179.1), (14, .bool r179.2)] _ from (At.cons hat hv4)) rfl (ov_bool (ov_move rfl) hb196) s217.sub (by exact rfl)
     ·intro a w215 h216 s217 hat hF
      obtain hv5 := hF 5 121 rfl rfl
      exact front_val (show At _ [(121, .bool true), (1, .pointer (some ⟨b7, 0, none⟩)), (9, .int .i64 r140.1), (10, .string r140.2), (11, .int .i64 r161.1), (12, .bool r161.2), (13, .int .i64 r179.1), (14, .bool r179.2)] _ from (At.cons hat hv5)) rfl (ov_move rfl) s217.sub (by exact rfl)
     ·intro a w215 h216 s217 hat hF
      obtain hv5 := hF 5 121 rfl rfl
      exact front_val (show At _ [(121, .bool true), (1, .pointer (some ⟨b7, 0, none⟩)), (9, .int .i64 r140.1), (10, .string r140.2), (11, .int .i64 r161.1), (12, .bool r161.2), (13, .int .i64 r179.1), (14, .bool r179.2)] _ from (At.cons hat hv5)) rfl (ov_move rfl) s217.sub (by exact rfl)
     ·intro a w215 h216 s217 hat hF
      obtain hv5 := hF 5 121 rfl rfl
      obtain hv6 := hF 6 122 rfl rfl
      obtain hv7 := hF 7 123 rfl rfl
      exact front_val (show At _ [(123, .int .i64 r140.1), (122, .int .i64 r161.1), (121, .bool true), (1, .pointer (some ⟨b7, 0, none⟩)), (9, .int .i64 r140.1), (10, .string r140.2), (11, .int .i64 r161.1), (12, .bool r161.2), (13, .int .i64 r179.1), (14, .bool r179.2)] _ from (At.cons (At.cons (At.cons hat hv5) hv6) hv7)) rfl (ov_lss rfl rfl) s217.sub (by exact rfl)
     ·intro a w215 h216 s217 hat hF
      obtain hv5 := hF 5 121 rfl rfl
      obtain hv8 := hF 8 124 rfl rfl
      exact front_val (show At _ [(124, .bool (decide ((r161.1 : Int) < r140.1))), (121, .bool true), (1, .pointer (some ⟨b7, 0, none⟩)), (9, .int .i64 r140.1), (10, .string r140.2), (11, .int .i64 r161.1), (12, .bool r161.2), (13, .int .i64 r179.1), (14, .bool r179.2)] _ from (At.cons (At.cons hat hv5) hv8)) rfl (ov_pickT rfl rfl) s217.sub (by exact rfl)
     ·intro a w215 h216 s217 hat hF
      obtain hv3 := hF 3 119 rfl rfl
      obtain hv9 := hF 9 125 rfl rfl
      refine front_call (show At _ [(125, .bool (decide ((r161.1 : Int) < r140.1))), (119, .agg cs193.toArray), (1, .pointer (some ⟨b7, 0, none⟩)), (9, .int .i64 r140.1), (10, .string r140.2), (11, .int .i64 r161.1), (12, .bool r161.2), (13, .int .i64 r179.1), (14, .bool r179.2)] _ from (At.cons (At.cons hat hv3) hv9)) rfl (oc_func (vs := [.agg cs193.toArray, .bool (decide ((r161.1 : Int) < r140.1))]) rfl t_ent_31) ((IH _ (Nat.le_refl _)).2.2 hr198 s217.sub (Rp.mono (s217.le) r194)) ?_
      rintro _ w219 ⟨h220, s221, rfl⟩
      exact ⟨_, h220, rfl, s221, (by exact rfl)⟩
     ·intro a w215 h216 s217 hat hF
      obtain hv10 := hF 10 126 rfl rfl
      exact front_val (show At _ [(126, .string r197), (1, .pointer (some ⟨b7, 0, none⟩)), (9, .int .i64 r140.1), (10, .string r140.2), (11, .int .i64 r161.1), (12, .bool r161.2), (13, .int .i64 r179.1), (14, .bool r179.2)] _ from (At.cons hat hv10)) rfl (ov_addS rfl rfl hl199) s217.sub (by exact rfl)
     ·intro a w215 h216 s217 hat hF
      exact front_val (show At _ [(1, .pointer (some ⟨b7, 0, none⟩)), (9, .int .i64 r140.1), (10, .string r140.2), (11, .int .i64 r161.1), (12, .bool r161.2), (13, .int .i64 r179.1), (14, .bool r179.2)] _ from hat) rfl (ov_move rfl) s217.sub (by exact rfl)
     ·intro a w215 h216 s217 hat hF
      obtain hv11 := hF 11 127 rfl rfl
      obtain hv12 := hF 12 128 rfl rfl
      exact front_val (show At _ [(128, .string r140.2), (127, .string (r197 ++ (⟨#[32]⟩ : ByteArray))), (1, .pointer (some ⟨b7, 0, none⟩)), (9, .int .i64 r140.1), (10, .string r140.2), (11, .int .i64 r161.1), (12, .bool r161.2), (13, .int .i64 r179.1), (14, .bool r179.2)] _ from (At.cons (At.cons hat hv11) hv12)) rfl (ov_addS rfl rfl hl200) s217.sub (by exact rfl)
     ·intro a w215 h216 s217 hat hF
      obtain hv13 := hF 13 129 rfl rfl
      exact front_val (show At _ [(129, .string ((r197 ++ (⟨#[32]⟩ : ByteArray)) ++ r140.2)), (1, .pointer (some ⟨b7, 0, none⟩)), (9, .int .i64 r140.1), (10, .string r140.2), (11, .int .i64 r161.1), (12, .bool r161.2), (13, .int .i64 r179.1), (14, .bool r179.2)] _ from (At.cons hat hv13)) rfl (ov_addS rfl rfl hl201) s217.sub (by exact rfl)
     ·intro a w215 h216 s217 hat hF
      exact front_val (show At _ [(1, .pointer (some ⟨b7, 0, none⟩)), (9, .int .i64 r140.1), (10, .string r140.2), (11, .int .i64 r161.1), (12, .bool r161.2), (13, .int .i64 r179.1), (14, .bool r179.2)] _ from hat) rfl (ov_fieldAddr rfl t_field_32_5) s217.sub (by exact rfl)
     ·intro a w215 h216 s217 hat hF
      obtain hv15 := hF 15 131 rfl rfl
      have ob222 := ((ob168.step0 s184).step0 s217)
      exact front_val (show At _ [(131, .pointer (some ⟨b7, 5, none⟩)), (1, .pointer (some ⟨b7, 0, none⟩)), (9, .int .i64 r140.1), (10, .string r140.2), (11, .int .i64 r161.1), (12, .bool r161.2), (13, .int .i64 r179.1), (14, .bool r179.2)] _ from (At.cons hat hv15)) rfl (ov_load1 rfl t_agg_30 (OB.cell ob222 (j := 5) rfl)) s217.sub (by exact rfl)
     ·intro a w215 h216 s217 hat hF
      obtain hv16 := hF 16 132 rfl rfl
      exact front_val (show At _ [(132, .slice (some ⟨b153, o154, none⟩) (x1.args).length c149), (1, .pointer (some ⟨b7, 0, none⟩)), (9, .int .i64 r140.1), (10, .string r140.2), (11, .int .i64 r161.1), (12, .bool r161.2), (13, .int .i64 r179.1), (14, .bool r179.2)] _ from (At.cons hat hv16)) rfl (ov_indexAddr rfl rfl t_slice_30 t_size_32 h207 h208) s217.sub (by exact rfl)
     ·intro a w215 h216 s217 hat hF
      obtain hv17 := hF 17 133 rfl rfl
      exact front_val (show At _ [(133, .pointer (some ⟨b153, o154 + Int.toNat 1 * 6, none⟩)), (1, .pointer (some ⟨b7, 0, none⟩)), (9, .int .i64 r140.1), (10, .string r140.2), (11, .int .i64 r161.1), (12, .bool r161.2), (13, .int .i64 r179.1), (14, .bool r179.2)] _ from (At.cons hat hv17)) rfl (ov_loadN (cs := cs209) rfl t_agg_32 (by rw [Rp.len (Rp.mono (s217.le) r210)]; exact t_size_32) (fun j v hv => s217.sub.at_ _ _ _ ((fun i v hv => (s217.le).1 _ _ _ (hc211 i v hv)) j v hv))) s217.sub (by exact rfl)
     ·intro a w215 h216 s217 hat hF
      exact front_val (show At _ [(1, .pointer (some ⟨b7, 0, none⟩)), (9, .int .i64 r140.1), (10, .string r140.2), (11, .int .i64 r161.1), (12, .bool r161.2), (13, .int .i64 r179.1), (14, .bool r179.2)] _ from hat) rfl (ov_move rfl) s217.sub (by exact rfl)
     ·intro a w215 h216 s217 hat hF
      obtain hv19 := hF 19 135 rfl rfl
      exact front_val (show At _ [(135, .bool r179.2), (1, .pointer (some ⟨b7, 0, none⟩)), (9, .int .i64 r140.1), (10, .string r140.2), (11, .int .i64 r161.1), (12, .bool r161.2), (13, .int .i64 r179.1), (14, .bool r179.2)] _ from (At.cons hat hv19)) rfl (ov_bool (ov_move rfl) hb212) s217.sub (by exact rfl)
     ·intro a w215 h216 s217 hat hF
      obtain hv20 := hF 20 136 rfl rfl
      exact front_val (show At _ [(136, .bool true), (1, .pointer (some ⟨b7, 0, none⟩)), (9, .int .i64 r140.1), (10, .string r140.2), (11, .int .i64 r161.1), (12, .bool r161.2), (13, .int .i64 r179.1), (14, .bool r179.2)] _ from (At.cons hat hv20)) rfl (ov_move rfl) s217.sub (by exact rfl)
     ·intro a w215 h216 s217 hat hF
      obtain hv20 := hF 20 136 rfl rfl
      exact front_val (show At _ [(136, .bool true), (1, .pointer (some ⟨b7, 0, none⟩)), (9, .int .i64 r140.1), (10, .string r140.2), (11, .int .i64 r161.1), (12, .bool r161.2), (13, .int .i64 r179.1), (14, .bool r179.2)] _ from (At.cons hat hv20)) rfl (ov_move rfl) s217.sub (by exact rfl)
     ·intro a w215 h216 s217 hat hF
      obtain hv20 := hF 20 136 rfl rfl
      obtain hv21 := hF 21 137 rfl rfl
      obtain hv22 := hF 22 138 rfl rfl
      exact front_val (show At _ [(138, .int .i64 r140.1), (137, .int .i64 r179.1), (136, .bool true), (1, .pointer (some ⟨b7, 0, none⟩)), (9, .int .i64 r140.1), (10, .string r140.2), (11, .int .i64 r161.1), (12, .bool r161.2), (13, .int .i64 r179.1), (14, .bool r179.2)] _ from (At.cons (At.cons (At.cons hat hv20) hv21) hv22)) rfl (ov_leq rfl rfl) s217.sub (by exact rfl)
     ·intro a w215 h216 s217 hat hF
      obtain hv20 := hF 20 136 rfl rfl
      obtain hv23 := hF 23 139 rfl rfl
      exact front_val (show At _ [(139, .bool (decide ((r179.1 : Int) ≤ r140.1))), (136, .bool true), (1, .pointer (some ⟨b7, 0, none⟩)), (9, .int .i64 r140.1), (10, .string r140.2), (11, .int .i64 r161.1), (12, .bool r161.2), (13, .int .i64 r179.1), (14, .bool r179.2)] _ from (At.cons (At.cons hat hv20) hv23)) rfl (ov_pickT rfl rfl) s217.sub (by exact rfl)
     ·intro a w215 h216 s217 hat hF
      obtain hv18 := hF 18 134 rfl rfl
      obtain hv24 := hF 24 140 rfl rfl
      refine front_call (show At _ [(140, .bool (decide ((r179.1 : Int) ≤ r140.1))), (134, .agg cs209.toArray), (1, .pointer (some ⟨b7, 0, none⟩)), (9, .int .i64 r140.1), (10, .string r140.2), (11, .int .i64 r161.1), (12, .bool r161.2), (13, .int .i64 r179.1), (14, .bool r179.2)] _ from (At.cons (At.cons hat hv18) hv24)) rfl (oc_func (vs := [.agg cs209.toArray, .bool (decide ((r179.1 : Int) ≤ r140.1))]) rfl t_ent_31) ((IH _ (Nat.le_refl _)).2.2 hr214 s217.sub (Rp.mono (s217.le) r210)) ?_
      rintro _ w223 ⟨h224, s225, rfl⟩
      exact ⟨_, h224, rfl, s225, (by exact rfl)⟩
    ·intro a w215 h216 s217 hat hF
     obtain hv0 := hF 0 116 (by decide) rfl
     obtain hv1 := hF 1 117 (by decide) rfl
     obtain hv2 := hF 2 118 (by decide) rfl
     obtain hv3 := hF 3 119 (by decide) rfl
     obtain hv4 := hF 4 120 (by decide) rfl
     obtain hv5 := hF 5 121 (by decide) rfl
     obtain hv6 := hF 6 122 (by decide) rfl
     obtain hv7 := hF 7 123 (by decide) rfl
     obtain hv8 := hF 8 124 (by decide) rfl
     obtain hv9 := hF 9 125 (by decide) rfl
     obtain hv10 := hF 10 126 (by decide) rfl
     obtain hv11 := hF 11 127 (by decide) rfl
     obtain hv12 := hF 12 128 (by decide) rfl
     obtain hv13 := hF 13 129 (by decide) rfl
     obtain hv14 := hF 14 130 (by decide) rfl
     obtain hv15 := hF 15 131 (by decide) rfl
     obtain hv16 := hF 16 132 (by decide) rfl
     obtain hv17 := hF 17 133 (by decide) rfl
     obtain hv18 := hF 18 134 (by decide) rfl
     obtain hv19 := hF 19 135 (by decide) rfl
     obtain hv20 := hF 20 136 (by decide) rfl
     obtain hv21 := hF 21 137 (by decide) rfl
     obtain hv22 := hF 22 138 (by decide) rfl
     obtain hv23 := hF 23 139 (by decide) rfl
     obtain hv24 := hF 24 140 (by decide) rfl
     obtain hv25 := hF 25 141 (by decide) rfl
     refine WL.at_ [(141, .string r213), (140, .bool (decide ((r179.1 : Int) ≤ r140.1))), (139, .bool (decide ((r179.1 : Int) ≤ r140.1))), (138, .int .i64 r140.1), (137, .int .i64 r179.1), (136, .bool true), (135, .bool r179.2), (134, .agg cs209.toArray), (133, .pointer (some ⟨b153, o154 + Int.toNat 1 * 6, none⟩)), (132, .slice (some ⟨b153, o154, none⟩) (x1.args).length c149), (131, .pointer (some ⟨b7, 5, none⟩)), (130, .string (((r197 ++ (⟨#[32]⟩ : ByteArray)) ++ r140.2) ++ (⟨#[32]⟩ : ByteArray))), (129, .string ((r197 ++ (⟨#[32]⟩ : ByteArray)) ++ r140.2)), (128, .string r140.2), (127, .string (r197 ++ (⟨#[32]⟩ : ByteArray))), (126, .string r197), (125, .bool (decide ((r161.1 : Int) < r140.1))), (124, .bool (decide ((r161.1 : Int) < r140.1))), (123, .int .i64 r140.1), (122, .int .i64 r161.1), (121, .bool true), (120, .bool r161.2), (119, .agg cs193.toArray), (118, .pointer (some ⟨b153, o154 + Int.toNat 0 * 6, none⟩)), (117, .slice (some ⟨b153, o154, none⟩) (x1.args).length c149), (116, .pointer (some ⟨b7, 5, none⟩)), (1, .pointer (some ⟨b7, 0, none⟩)), (9, .int .i64 r140.1), (10, .string r140.2), (11, .int .i64 r161.1), (12, .bool r161.2), (13, .int .i64 r179.1), (14, .bool r179.2)] (At.cons (At.cons (At.cons (At.cons (At.cons (At.cons (At.cons (At.cons (At.cons (At.cons (At.cons (At.cons (At.cons (At.cons (At.cons (At.cons (At.cons (At.cons (At.cons (At.cons (At.cons (At.cons (At.cons (At.cons (At.cons (At.cons hat hv0) hv1) hv2) hv3) hv4) hv5) hv6) hv7) hv8) hv9) hv10) hv11) hv12) hv13) hv14) hv15) hv16) hv17) hv18) hv19) hv20) hv21) hv22) hv23) hv24) hv25) ?_
     have S226 := S185.trans0 s217
     obtain ⟨hl227, HF⟩ := ite_none HF
     refine WL.val rfl rfl rfl (ov_addS rfl rfl hl227) <| WL.val rfl rfl rfl (ov_assign rfl) <| WL.nil <| WQ.seqN <| WC.ret <| WQ.ret1 rfl rfl ?_
     obtain rfl := Option.some.inj HF
     exact ⟨_, rfl, h216, S226, rfl⟩
   ·replace HF := bif_f hb212 HF
    obtain ⟨r228, hr229, HF⟩ := bind_some HF
    refine WC.drawn (m := 26) [(1, .pointer (some ⟨b7, 0, none⟩)), (9, .int .i64 r140.1), (10, .string r140.2), (11, .int .i64 r161.1), (12, .bool r161.2), (13, .int .i64 r179.1), (14, .bool r179.2)] [1, 9, 10, 11, 12, 13, 14] rfl (fun i v w h => match i with | 0 => v = .pointer (some ⟨b7, 5, none⟩) | 1 => v = .slice (some ⟨b153, o154, none⟩) (x1.args).length c149 | 2 => v = .pointer (some ⟨b153, o154 + Int.toNat 0 * 6, none⟩) | 3 => v = .agg cs193.toArray | 4 => v = .bool r161.2 | 5 => v = .bool true | 6 => v = .int .i64 r161.1 | 7 => v = .int .i64 r140.1 | 8 => v = .bool (decide ((r161.1 : Int) < r140.1)) | 9 => v = .bool (decide ((r161.1 : Int) < r140.1)) | 10 => v = .string r197 | 11 => v = .string (r197 ++ (⟨#[32]⟩ : ByteArray)) | 12 => v = .string r140.2 | 13 => v = .string ((r197 ++ (⟨#[32]⟩ : ByteArray)) ++ r140.2) | 14 => v = .string (((r197 ++ (⟨#[32]⟩ : ByteArray)) ++ r140.2) ++ (⟨#[32]⟩ : ByteArray)) | 15 => v = .pointer (some ⟨b7, 5, none⟩) | 16 => v = .slice (some ⟨b153, o154, none⟩) (x1.args).length c149 | 17 => v = .pointer (some ⟨b153, o154 + Int.toNat 1 * 6, none⟩) | 18 => v = .agg cs209.toArray | 19 => v = .bool r179.2 | 20 => v = .bool false | 21 => v = undef | 22 => v = undef | 23 => v = undef | 24 => v = .bool false | 25 => v = .string r228 | _ => True) t_mixed S185.sub rfl rfl rfl rfl rfl ?_ ?_ ?_
    ·intro i v w h w2 h2 hΦ hst
     match i, hΦ with
     | 0, hΦ => exact hΦ
     | 1, hΦ => exact hΦ
     | 2, hΦ => exact hΦ
     | 3, hΦ => exact hΦ
     | 4, hΦ => exact hΦ
     | 5, hΦ => exact hΦ
     | 6, hΦ => exact hΦ
     | 7, hΦ => exact hΦ
     | 8, hΦ => exact hΦ
     | 9, hΦ => exact hΦ
     | 10, hΦ => exact hΦ
     | 11, hΦ => exact hΦ
     | 12, hΦ => exact hΦ
     | 13, hΦ => exact hΦ
     | 14, hΦ => exact hΦ
     | 15, hΦ => exact hΦ
     | 16, hΦ => exact hΦ
     | 17, hΦ => exact hΦ
     | 18, hΦ => exact hΦ
     | 19, hΦ => exact hΦ
     | 20, hΦ => exact hΦ
     | 21, hΦ => exact hΦ
     | 22, hΦ => exact hΦ
     | 23, hΦ => exact hΦ
     | 24, hΦ => exact hΦ
     | 25, hΦ => exact hΦ
     | i + 26, _ => exact trivial
    ·refine ⟨?_, ?_, ?_, ?_, ?_, ?_, ?_, ?_, ?_, ?_, ?_, ?_, ?_, ?_, ?_, ?_, ?_, ?_, ?_, ?_, ?_, ?_, ?_, ?_, ?_, ?_, trivial⟩
     ·intro a w230 h231 s232 hat hF
      exact front_val (show At _ [(1, .pointer (some ⟨b7, 0, none⟩)), (9, .int .i64 r140.1), (10, .string r140.2), (11, .int .i64 r161.1), (12, .bool r161.2), (13, .int .i64 r179.1), (14, .bool r179.2)] _ from hat) rfl (ov_fieldAddr rfl t_field_32_5) s232.sub (by exact rfl)
     ·intro a w230 h231 s232 hat hF
      obtain hv0 := hF 0 116 rfl rfl
      have ob233 := ((ob168.step0 s184).step0 s232)
      exact front_val (show At _ [(116, .pointer (some ⟨b7, 5, none⟩)), (1, .pointer (some ⟨b7, 0, none⟩)), (9, .int .i64 r140.1), (10, .string r140.2), (11, .int .i64 r161.1), (12, .bool r161.2), (13, .int .i64 r179.1), (14, .bool r179.2)] _ from (At.cons hat hv0)) rfl (ov_load1 rfl t_agg_30 (OB.cell ob233 (j := 5) rfl)) s232.sub (by exact rfl)
     ·intro a w230 h231 s232 hat hF
      obtain hv1 := hF 1 117 rfl rfl
      exact front_val (show At _ [(117, .slice (some ⟨b153, o154, none⟩) (x1.args).length c149), (1, .pointer (some ⟨b7, 0, none⟩)), (9, .int .i64 r140.1), (10, .string r140.2), (11, .int .i64 r161.1), (12, .bool r161.2), (13, .int .i64 r179.1), (14, .bool r179.2)] _ from (At.cons hat hv1)) rfl (ov_indexAddr rfl rfl t_slice_30 t_size_32 h191 h192) s232.sub (by exact rfl)
     ·intro a w230 h231 s232 hat hF
      obtain hv2 := hF 2 118 rfl rfl
      exact front_val (show At _ [(118, .pointer (some ⟨b153, o154 + Int.toNat 0 * 6, none⟩)), (1, .pointer (some ⟨b7, 0, none⟩)), (9, .int .i64 r140.1), (10, .string r140.2), (11, .int .i64 r161.1), (12, .bool r161.2), (13, .int .i64 r179.1), (14, .bool r179.2)] _ from (At.cons hat hv2)) rfl (ov_loadN (cs := cs193) rfl t_agg_32 (by rw [Rp.len (Rp.mono (s232.le) r194)]; exact t_size_32) (fun j v hv => s232.sub.at_ _ _ _ ((fun i v hv => (s232.le).1 _ _ _ (hc195 i v hv)) j v hv))) s232.sub (by exact rfl)
     ·intro a w230 h231 s232 hat hF
      exact front_val (show At _ [(1, .pointer (some ⟨b7, 0, none⟩)), (9, .int .i64 r140.1), (10, .string r140.2), (11, .int .i64 r161.1), (12, .bool r161.2), (13, .int .i64 r179.1), (14, .bool r179.2)] _ from hat) rfl (ov_move rfl) s232.sub (by exact rfl)
     ·intro a w230 h231 s232 hat hF
      obtain hv4 := hF 4 120 rfl rfl
      exact front_val (show At _ [(120, .bool r161.2), (1, .pointer (some ⟨b7, 0, none⟩)), (9, .int .i64 r140.1), (10, .string r140.2), (11, .int .i64 r161.1), (12, .bool r161.2), (13, .int .i64 r179.1), (14, .bool r179.2)] _ from (At.cons hat hv4)) rfl (ov_bool (ov_move rfl) hb196) s232.sub (by exact rfl)
     ·intro a w230 h231 s232 hat hF
      obtain hv5 := hF 5 121 rfl rfl
      exact front_val (show At _ [(121, .bool true), (1, .pointer (some ⟨b7, 0, none⟩)), (9, .int .i64 r140.1), (10, .string r140.2), (11, .int .i64 r161.1), (12, .bool r161.2), (13, .int .i64 r179.1), (14, .bool r179.2)] _ from (At.cons hat hv5)) rfl (ov_move rfl) s232.sub (by exact rfl)
     ·intro a w230 h231 s232 hat hF
      obtain hv5 := hF 5 121 rfl rfl
      exact front_val (show At _ [(121, .bool true), (1, .pointer (some ⟨b7, 0, none⟩)), (9, .int .i64 r140.1), (10, .string r140.2), (11, .int .i64 r161.1), (12, .bool r161.2), (13, .int .i64 r179.1), (14, .bool r179.2)] _ from (At.cons hat hv5)) rfl (ov_move rfl) s232.sub (by exact rfl)
     ·intro a w230 h231 s232 hat hF
      obtain hv5 := hF 5 121 rfl rfl
      obtain hv6 := hF 6 122 rfl rfl
      obtain hv7 := hF 7 123 rfl rfl
      exact front_val (show At _ [(123, .int .i64 r140.1), (122, .int .i64 r161.1), (121, .bool true), (1, .pointer (some ⟨b7, 0, none⟩)), (9, .int .i64 r140.1), (10, .string r140.2), (11, .int .i64 r161.1), (12, .bool r161.2), (13, .int .i64 r179.1), (14, .bool r179.2)] _ from (At.cons (At.cons (At.cons hat hv5) hv6) hv7)) rfl (ov_lss rfl rfl) s232.sub (by exact rfl)
     ·intro a w230 h231 s232 hat hF
      obtain hv5 := hF 5 121 rfl rfl
      obtain hv8 := hF 8 124 rfl rfl
      exact front_val (show At _ [(124, .bool (decide ((r161.1 : Int) < r140.1))), (121, .bool true), (1, .pointer (some ⟨b7, 0, none⟩)), (9, .int .i64 r140.1), (10, .string r140.2), (11, .int .i64 r161.1), (12, .bool r161.2), (13, .int .i64 r179.1), (14, .bool r179.2)] _ from (At.cons (At.cons hat hv5) hv8)) rfl (ov_pickT rfl rfl) s232.sub (by exact rfl)
     ·intro a w230 h231 s232 hat hF
      obtain hv3 := hF 3 119 rfl rfl
      obtain hv9 := hF 9 125 rfl rfl
      refine front_call (show At _ [(125, .bool (decide ((r161.1 : Int) < r140.1))), (119, .agg cs193.toArray), (1, .pointer (some ⟨b7, 0, none⟩)), (9, .int .i64 r140.1), (10, .string r140.2), (11, .int .i64 r161.1), (12, .bool r161.2), (13, .int .i64 r179.1), (14, .bool r179.2)] _ from (At.cons (At.cons hat hv3) hv9)) rfl (oc_func (vs := [.agg cs193.toArray, .bool (decide ((r161.1 : Int) < r140.1))]) rfl t_ent_31) ((IH _ (Nat.le_refl _)).2.2 hr198 s232.sub (Rp.mono (s232.le) r194)) ?_
      rintro _ w234 ⟨h235, s236, rfl⟩
      exact ⟨_, h235, rfl, s236, (by exact rfl)⟩
     ·intro a w230 h231 s232 hat hF
      obtain hv10 := hF 10 126 rfl rfl
      exact front_val (show At _ [(126, .string r197), (1, .pointer (some ⟨b7, 0, none⟩)), (9, .int .i64 r140.1), (10, .string r140.2), (11, .int .i64 r161.1), (12, .bool r161.2), (13, .int .i64 r179.1), (14, .bool r179.2)] _ from (At.cons hat hv10)) rfl (ov_addS rfl rfl hl199) s232.sub (by exact rfl)
     ·intro a w230 h231 s232 hat hF
      exact front_val (show At _ [(1, .pointer (some ⟨b7, 0, none⟩)), (9, .int .i64 r140.1), (10, .string r140.2), (11, .int .i64 r161.1), (12, .bool r161.2), (13, .int .i64 r179.1), (14, .bool r179.2)] _ from hat) rfl (ov_move rfl) s232.sub (by exact rfl)
     ·intro a w230 h231 s232 hat hF
      obtain hv11 := hF 11 127 rfl rfl
      obtain hv12 := hF 12 128 rfl rfl
      exact front_val (show At _ [(128, .string r140.2), (127, .string (r197 ++ (⟨#[32]⟩ : ByteArray))), (1, .pointer (some ⟨b7, 0, none⟩)), (9, .int .i64 r140.1), (10, .string r140.2), (11, .int .i64 r161.1), (12, .bool r161.2), (13, .int .i64 r179.1), (14, .bool r179.2)] _ from (At.cons (At.cons hat hv11) hv12)) rfl (ov_addS rfl rfl hl200) s232.sub (by exact rfl)
     ·intro a w230 h231 s232 hat hF
      obtain hv13 := hF 13 129 rfl rfl
      exact front_val (show At _ [(129, .string ((r197 ++ (⟨#[32]⟩ : ByteArray)) ++ r140.2)), (1, .pointer (some ⟨b7, 0, none⟩)), (9, .int .i64 r140.1), (10, .string r140.2), (11, .int .i64 r161.1), (12, .bool r161.2), (13, .int .i64 r179.1), (14, .bool r179.2)] _ from (At.cons hat hv13)) rfl (ov_addS rfl rfl hl201) s232.sub (by exact rfl)
     ·intro a w230 h231 s232 hat hF
      exact front_val (show At _ [(1, .pointer (some ⟨b7, 0, none⟩)), (9, .int .i64 r140.1), (10, .string r140.2), (11, .int .i64 r161.1), (12, .bool r161.2), (13, .int .i64 r179.1), (14, .bool r179.2)] _ from hat) rfl (ov_fieldAddr rfl t_field_32_5) s232.sub (by exact rfl)
     ·intro a w230 h231 s232 hat hF
      obtain hv15 := hF 15 131 rfl rfl
      have ob237 := ((ob168.step0 s184).step0 s232)
      exact front_val (show At _ [(131, .pointer (some ⟨b7, 5, none⟩)), (1, .pointer (some ⟨b7, 0, none⟩)), (9, .int .i64 r140.1), (10, .string r140.2), (11, .int .i64 r161.1), (12, .bool r161.2), (13, .int .i64 r179.1), (14, .bool r179.2)] _ from (At.cons hat hv15)) rfl (ov_load1 rfl t_agg_30 (OB.cell ob237 (j := 5) rfl)) s232.sub (by exact rfl)
     ·intro a w230 h231 s232 hat hF
      obtain hv16 := hF 16 132 rfl rfl
      exact front_val (show At _ [(132, .slice (some ⟨b153, o154, none⟩) (x1.args).length c149), (1, .pointer (some ⟨b7, 0, none⟩)), (9, .int .i64 r140.1), (10, .string r140.2), (11, .int .i64 r161.1), (12, .bool r161.2), (13, .int .i64 r179.1), (14, .bool r179.2)] _ from (At.cons hat hv16)) rfl (ov_indexAddr rfl rfl t_slice_30 t_size_32 h207 h208) s232.sub (by exact rfl)
     ·intro a w230 h231 s232 hat hF
      obtain hv17 := hF 17 133 rfl rfl
      exact front_val (show At _ [(133, .pointer (some ⟨b153, o154 + Int.toNat 1 * 6, none⟩)), (1, .pointer (some ⟨b7, 0, none⟩)), (9, .int .i64 r140.1), (10, .string r140.2), (11, .int .i64 r161.1), (12, .bool r161.2), (13, .int .i64 r179.1), (14, .bool r179.2)] _ from (At.cons hat hv17)) rfl (ov_loadN (cs := cs209) rfl t_agg_32 (by rw [Rp.len (Rp.mono (s232.le) r210)]; exact t_size_32) (fun j v hv => s232.sub.at_ _ _ _ ((fun i v hv => (s232.le).1 _ _ _ (hc211 i v hv)) j v hv))) s232.sub (by exact rfl)
     ·intro a w230 h231 s232 hat hF
      exact front_val (show At _ [(1, .pointer (some ⟨b7, 0, none⟩)), (9, .int .i64 r140.1), (10, .string r140.2), (11, .int .i64 r161.1), (12, .bool r161.2), (13, .int .i64 r179.1), (14, .bool r179.2)] _ from hat) rfl (ov_move rfl) s232.sub (by exact rfl)
     ·intro a w230 h231 s232 hat hF
      obtain hv19 := hF 19 135 rfl rfl
      exact front_val (show At _ [(135, .bool r179.2), (1, .pointer (some ⟨b7, 0, none⟩)), (9, .int .i64 r140.1), (10, .string r140.2), (11, .int .i64 r161.1), (12, .bool r161.2), (13, .int .i64 r179.1), (14, .bool r179.2)] _ from (At.cons hat hv19)) rfl (ov_bool (ov_move rfl) hb212) s232.sub (by exact rfl)
     ·intro a w230 h231 s232 hat hF
      obtain hv20 := hF 20 136 rfl rfl
      exact front_skip (show At _ [(136, .bool false), (1, .pointer (some ⟨b7, 0, none⟩)), (9, .int .i64 r140.1), (10, .string r140.2), (11, .int .i64 r161.1), (12, .bool r161.2), (13, .int .i64 r179.1), (14, .bool r179.2)] _ from (At.cons hat hv20)) rfl (by exact rfl)
     ·intro a w230 h231 s232 hat hF
      obtain hv20 := hF 20 136 rfl rfl
      exact front_skip (show At _ [(136, .bool false), (1, .pointer (some ⟨b7, 0, none⟩)), (9, .int .i64 r140.1), (10, .string r140.2), (11, .int .i64 r161.1), (12, .bool r161.2), (13, .int .i64 r179.1), (14, .bool r179.2)] _ from (At.cons hat hv20)) rfl (by exact rfl)
     ·intro a w230 h231 s232 hat hF
      obtain hv20 := hF 20 136 rfl rfl
      obtain hv21 := hF 21 137 rfl rfl
      obtain hv22 := hF 22 138 rfl rfl
      exact front_skip (show At _ [(138, undef), (137, undef), (136, .bool false), (1, .pointer (some ⟨b7, 0, none⟩)), (9, .int .i64 r140.1), (10, .string r140.2), (11, .int .i64 r161.1), (12, .bool r161.2), (13, .int .i64 r179.1), (14, .bool r179.2)] _ from (At.cons (At.cons (At.cons hat hv20) hv21) hv22)) rfl (by exact rfl)
     ·intro a w230 h231 s232 hat hF
      obtain hv20 := hF 20 136 rfl rfl
      obtain hv23 := hF 23 139 rfl rfl
      exact front_val (show At _ [(139, undef), (136, .bool false), (1, .pointer (some ⟨b7, 0, none⟩)), (9, .int .i64 r140.1), (10, .string r140.2), (11, .int .i64 r161.1), (12, .bool r161.2), (13, .int .i64 r179.1), (14, .bool r179.2)] _ from (At.cons (At.cons hat hv20) hv23)) rfl (ov_pickF rfl rfl) s232.sub (by exact rfl)
     ·intro a w230 h231 s232 hat hF
      obtain hv18 := hF 18 134 rfl rfl
      obtain hv24 := hF 24 140 rfl rfl
      refine front_call (show At _ [(140, .bool false), (134, .agg cs209.toArray), (1, .pointer (some ⟨b7, 0, none⟩)), (9, .int .i64 r140.1), (10, .string r140.2), (11, .int .i64 r161.1), (12, .bool r161.2), (13, .int .i64 r179.1), (14, .bool r179.2)] _ from (At.cons (At.cons hat hv18) hv24)) rfl (oc_func (vs := [.agg cs209.toArray, .bool false]) rfl t_ent_31) ((IH _ (Nat.le_refl _)).2.2 hr229 s232.sub (Rp.mono (s232.le) r210)) ?_
      rintro _ w238 ⟨h239, s240, rfl⟩
      exact ⟨_, h239, rfl, s240, (by exact rfl)⟩
    ·intro a w230 h231 s232 hat hF
     obtain hv0 := hF 0 116 (by decide) rfl
     obtain hv1 := hF 1 117 (by decide) rfl
     obtain hv2 := hF 2 118 (by decide) rfl
     obtain hv3 := hF 3 119 (by decide) rfl
     obtain hv4 := hF 4 120 (by decide) rfl
     obtain hv5 := hF 5 121 (by decide) rfl
     obtain hv6 := hF 6 122 (by decide) rfl
     obtain hv7 := hF 7 123 (by decide) rfl
     obtain hv8 := hF 8 124 (by decide) rfl
     obtain hv9 := hF 9 125 (by decide) rfl
     obtain hv10 := hF 10 126 (by decide) rfl
     obtain hv11 := hF 11 127 (by decide) rfl
     obtain hv12 := hF 12 128 (by decide) rfl
     obtain hv13 := hF 13 129 (by decide) rfl
     obtain hv14 := hF 14 130 (by decide) rfl
     obtain hv15 := hF 15 131 (by decide) rfl
     obtain hv16 := hF 16 132 (by decide) rfl
     obtain hv17 := hF 17 133 (by decide) rfl
     obtain hv18 := hF 18 134 (by decide) rfl
     obtain hv19 := hF 19 135 (by decide) rfl
     obtain hv20 := hF 20 136 (by decide) rfl
     obtain hv21 := hF 21 137 (by decide) rfl
     obtain hv22 := hF 22 138 (by decide) rfl
     obtain hv23 := hF 23 139 (by decide) rfl
     obtain hv24 := hF 24 140 (by decide) rfl
     obtain hv25 := hF 25 141 (by decide) rfl
     refine WL.at_ [(141, .string r228), (140, .bool false), (139, undef), (138, undef), (137, undef), (136, .bool false), (135, .bool r179.2), (134, .agg cs209.toArray), (133, .pointer (some ⟨b153, o154 + Int.toNat 1 * 6, none⟩)), (132, .slice (some ⟨b153, o154, none⟩) (x1.args).length c149), (131, .pointer (some ⟨b7, 5, none⟩)), (130, .string (((r197 ++ (⟨#[32]⟩ : ByteArray)) ++ r140.2) ++ (⟨#[32]⟩ : ByteArray))), (129, .string ((r197 ++ (⟨#[32]⟩ : ByteArray)) ++ r140.2)), (128, .string r140.2), (127, .string (r197 ++ (⟨#[32]⟩ : ByteArray))), (126, .string r197), (125, .bool (decide ((r161.1 : Int) < r140.1))), (124, .bool (decide ((r161.1 : Int) < r140.1))), (123, .int .i64 r140.1), (122, .int .i64 r161.1), (121, .bool true), (120, .bool r161.2), (119, .agg cs193.toArray), (118, .pointer (some ⟨b153, o154 + Int.toNat 0 * 6, none⟩)), (117, .slice (some ⟨b153, o154, none⟩) (x1.args).length c149), (116, .pointer (some ⟨b7, 5, none⟩)), (1, .pointer (some ⟨b7, 0, none⟩)), (9, .int .i64 r140.1), (10, .string r140.2), (11, .int .i64 r161.1), (12, .bool r161.2), (13, .int .i64 r179.1), (14, .bool r179.2)] (At.cons (At.cons (At.cons (At.cons (At.cons (At.cons (At.cons (At.cons (At.cons (At.cons (At.cons (At.cons (At.cons (At.cons (At.cons (At.cons (At.cons (At.cons (At.cons (At.cons (At.cons (At.cons (At.cons (At.cons (At.cons (At.cons hat hv0) hv1) hv2) hv3) hv4) hv5) hv6) hv7) hv8) hv9) hv10) hv11) hv12) hv13) hv14) hv15) hv16) hv17) hv18) hv19) hv20) hv21) hv22) hv23) hv24) hv25) ?_
     have S241 := S185.trans0 s232
     obtain ⟨hl242, HF⟩ := ite_none HF
     refine WL.val rfl rfl rfl (ov_addS rfl rfl hl242) <| WL.val rfl rfl rfl (ov_assign rfl) <| WL.nil <| WQ.seqN <| WC.ret <| WQ.ret1 rfl rfl ?_
     obtain rfl := Option.some.inj HF
     exact ⟨_, rfl, h231, S241, rfl⟩
  ·replace HF := bif_f hb196 HF
   obtain ⟨r243, hr244, HF⟩ := bind_some HF
   obtain ⟨hl245, HF⟩ := ite_none HF
   obtain ⟨hl246, HF⟩ := ite_none HF
   obtain ⟨hl247, HF⟩ := ite_none HF
   obtain ⟨e248, he249, HF⟩ := bind_some HF
   obtain ⟨b250, o251, hA, h253, h254, ra252⟩ := RS.atO (rs150.mono ((s166.le).trans s184.le)) he249
   obtain ⟨rfl, rfl⟩ := some_addr hA
   obtain ⟨cs255, r256, hc257⟩ := ra252
   refine bool_cases (b := r179.2) (fun hb258 => ?_) (fun hb258 => ?_)
   ·replace HF := bif_t hb258 HF
    obtain ⟨r259, hr260, HF⟩ := bind_some HF
    refine WC.drawn (m := 26) [(1, .pointer (some ⟨b7, 0, none⟩)), (9, .int .i64 r140.1), (10, .string r140.2), (11, .int .i64 r161.1), (12, .bool r161.2), (13, .int .i64 r179.1), (14, .bool r179.2)] [1, 9, 10, 11, 12, 13, 14] rfl (fun i v w h => match i with | 0 => v = .pointer (some ⟨b7, 5, none⟩) | 1 => v = .slice (some ⟨b153, o154, none⟩) (x1.args).length c149 | 2 => v = .pointer (some ⟨b153, o154 + Int.toNat 0 * 6, none⟩) | 3 => v = .agg cs193.toArray | 4 => v = .bool r161.2 | 5 => v = .bool false | 6 => v = undef | 7 => v = undef | 8 => v = undef | 9 => v = .bool false | 10 => v = .string r243 | 11 => v = .string (r243 ++ (⟨#[32]⟩ : ByteArray)) | 12 => v = .string r140.2 | 13 => v = .string ((r243 ++ (⟨#[32]⟩ : ByteArray)) ++ r140.2) | 14 => v = .string (((r243 ++ (⟨#[32]⟩ : ByteArray)) ++ r140.2) ++ (⟨#[32]⟩ : ByteArray)) | 15 => v = .pointer (some ⟨b7, 5, none⟩) | 16 => v = .slice (some ⟨b153, o154, none⟩) (x1.args).length c149 | 17 => v = .pointer (some ⟨b153, o154 + Int.toNat 1 * 6, none⟩) | 18 => v = .agg cs255.toArray | 19 => v = .bool r179.2 | 20 => v = .bool true | 21 => v = .int .i64 r179.1 | 22 => v = .int .i64 r140.1 | 23 => v = .bool (decide ((r179.1 : Int) ≤ r140.1)) | 24 => v = .bool (decide ((r179.1 : Int) ≤ r140.1)) | 25 => v = .string r259 | _ => True) t_mixed S185.sub rfl rfl rfl rfl rfl ?_ ?_ ?_
    ·intro i v w h w2 h2 hΦ hst
     match i, hΦ with
     | 0, hΦ => exact hΦ
     | 1, hΦ => exact hΦ
     | 2, hΦ => exact hΦ
     | 3, hΦ => exact hΦ
     | 4, hΦ => exact hΦ
     | 5, hΦ => exact hΦ
     | 6, hΦ => exact hΦ
     | 7, hΦ => exact hΦ
     | 8, hΦ => exact hΦ
     | 9, hΦ => exact hΦ
     | 10, hΦ => exact hΦ
     | 11, hΦ => exact hΦ
     | 12, hΦ => exact hΦ
     | 13, hΦ => exact hΦ
     | 14, hΦ => exact hΦ
     | 15, hΦ => exact hΦ
     | 16, hΦ => exact hΦ
     | 17, hΦ => exact hΦ
     | 18, hΦ => exact hΦ
     | 19, hΦ => exact hΦ
     | 20, hΦ => exact hΦ
     | 21, hΦ => exact hΦ
     | 22, hΦ => exact hΦ
     | 23, hΦ => exact hΦ
     | 24, hΦ => exact hΦ
     | 25, hΦ => exact hΦ
     | i + 26, _ => exact trivial
    ·refine ⟨?_, ?_, ?_, ?_, ?_, ?_, ?_, ?_, ?_, ?_, ?_, ?_, ?_, ?_, ?_, ?_, ?_, ?_, ?_, ?_, ?_, ?_, ?_, ?_, ?_, ?_, trivial⟩
     ·intro a w261 h262 s263 hat hF
      exact front_val (show At _ [(1, .pointer (some ⟨b7, 0, none⟩)), (9, .int .i64 r140.1), (10, .string r140.2), (11, .int .i64 r161.1), (12, .bool r161.2), (13, .int .i64 r179.1), (14, .bool r179.2)] _ from hat) rfl (ov_fieldAddr rfl t_field_32_5) s263.sub (by exact rfl)
     ·intro a w261 h262 s263 hat hF
      obtain hv0 := hF 0 116 rfl rfl
      have ob264 := ((ob168.step0 s184).step0 s263)
      exact front_val (show At _ [(116, .pointer (some ⟨b7, 5, none⟩)), (1, .pointer (some ⟨b7, 0, none⟩)), (9, .int .i64 r140.1), (10, .string r140.2), (11, .int .i64 r161.1), (12, .bool r161.2), (13, .int .i64 r179.1), (14, .bool r179.2)] _ from (At.cons hat hv0)) rfl (ov_load1 rfl t_agg_30 (OB.cell ob264 (j := 5) rfl)) s263.sub (by exact rfl)
     ·intro a w261 h262 s263 hat hF
      obtain hv1 := hF 1 117 rfl rfl
      exact front_val (show At _ [(117, .slice (some ⟨b153, o154, none⟩) (x1.args).length c149), (1, .pointer (some ⟨b7, 0, none⟩)), (9, .int .i64 r140.1), (10, .string r140.2), (11, .int .i64 r161.1), (12, .bool r161.2), (13, .int .i64 r179.1), (14, .bool r179.2)] _ from (At.cons hat hv1)) rfl (ov_indexAddr rfl rfl t_slice_30 t_size_32 h191 h192) s263.sub (by exact rfl)
     ·intro a w261 h262 s263 hat hF
      obtain hv2 := hF 2 118 rfl rfl
      exact front_val (show At _ [(118, .pointer (some ⟨b153, o154 + Int.toNat 0 * 6, none⟩)), (1, .pointer (some ⟨b7, 0, none⟩)), (9, .int .i64 r140.1), (10, .string r140.2), (11, .int .i64 r161.1), (12, .bool r161.2), (13, .int .i64 r179.1), (14, .bool r179.2)] _ from (At.cons hat hv2)) rfl (ov_loadN (cs := cs193) rfl t_agg_32 (by rw [Rp.len (Rp.mono (s263.le) r194)]; exact t_size_32) (fun j v hv => s263.sub.at_ _ _ _ ((fun i v hv => (s263.le).1 _ _ _ (hc195 i v hv)) j v hv))) s263.sub (by exact rfl)
     ·intro a w261 h262 s263 hat hF
      exact front_val (show At _ [(1, .pointer (some ⟨b7, 0, none⟩)), (9, .int .i64 r140.1), (10, .string r140.2), (11, .int .i64 r161.1), (12, .bool r161.2), (13, .int .i64 r179.1), (14, .bool r179.2)] _ from hat) rfl (ov_move rfl) s263.sub (by exact rfl)
     ·intro a w261 h262 s263 hat hF
      obtain hv4 := hF 4 120 rfl rfl
      exact front_val (show At _ [(120, .bool r161.2), (1, .pointer (some ⟨b7, 0, none⟩)), (9, .int .i64 r140.1), (10, .string r140.2), (11, .int .i64 r161.1), (12, .bool r161.2), (13, .int .i64 r179.1), (14, .bool r179.2)] _ from (At.cons hat hv4)) rfl (ov_bool (ov_move rfl) hb196) s263.sub (by exact rfl)
     ·intro a w261 h262 s263 hat hF
      obtain hv5 := hF 5 121 rfl rfl
      exact front_skip (show At _ [(121, .bool false), (1, .pointer (some ⟨b7, 0, none⟩)), (9, .int .i64 r140.1), (10, .string r140.2), (11, .int .i64 r161.1), (12, .bool r161.2), (13, .int .i64 r179.1), (14, .bool r179.2)] _ from (At.cons hat hv5)) rfl (by exact rfl)
     ·intro a w261 h262 s263 hat hF
      obtain hv5 := hF 5 121 rfl rfl
      exact front_skip (show At _ [(121, .bool false), (1, .pointer (some ⟨b7, 0, none⟩)), (9, .int .i64 r140.1), (10, .string r140.2), (11, .int .i64 r161.1), (12, .bool r161.2), (13, .int .i64 r179.1), (14, .bool r179.2)] _ from (At.cons hat hv5)) rfl (by exact rfl)
     ·intro a w261 h262 s263 hat hF
      obtain hv5 := hF 5 121 rfl rfl
      obtain hv6 := hF 6 122 rfl rfl
      obtain hv7 := hF 7 123 rfl rfl
      exact front_skip (show At _ [(123, undef), (122, undef), (121, .bool false), (1, .pointer (some ⟨b7, 0, none⟩)), (9, .int .i64 r140.1), (10, .string r140.2), (11, .int .i64 r161.1), (12, .bool r161.2), (13, .int .i64 r179.1), (14, .bool r179.2)] _ from (At.cons (At.cons (At.cons hat hv5) hv6) hv7)) rfl (by exact rfl)
     ·intro a w261 h262 s263 hat hF
      obtain hv5 := hF 5 121 rfl rfl
      obtain hv8 := hF 8 124 rfl rfl
      exact front_val (show At _ [(124, undef), (121, .bool false), (1, .pointer (some ⟨b7, 0, none⟩)), (9, .int .i64 r140.1), (10, .string r140.2), (11, .int .i64 r161.1), (12, .bool r161.2), (13, .int .i64 r179.1), (14, .bool r179.2)] _ from (At.cons (At.cons hat hv5) hv8)) rfl (ov_pickF rfl rfl) s263.sub (by exact rfl)
     ·intro a w261 h262 s263 hat hF
      obtain hv3 := hF 3 119 rfl rfl
      obtain hv9 := hF 9 125 rfl rfl
      refine front_call (show At _ [(125, .bool false), (119, .agg cs193.toArray), (1, .pointer (some ⟨b7, 0, none⟩)), (9, .int .i64 r140.1), (10, .string r140.2), (11, .int .i64 r161.1), (12, .bool r161.2), (13, .int .i64 r179.1), (14, .bool r179.2)] _ from (At.cons (At.cons hat hv3) hv9)) rfl (oc_func (vs := [.agg cs193.toArray, .bool false]) rfl t_ent_31) ((IH _ (Nat.le_refl _)).2.2 hr244 s263.sub (Rp.mono (s263.le) r194)) ?_
      rintro _ w265 ⟨h266, s267, rfl⟩
      exact ⟨_, h266, rfl, s267, (by exact rfl)⟩
     ·intro a w261 h262 s263 hat hF
      obtain hv10 := hF 10 126 rfl rfl
      exact front_val (show At _ [(126, .string r243), (1, .pointer (some ⟨b7, 0, none⟩)), (9, .int .i64 r140.1), (10, .string r140.2), (11, .int .i64 r161.1), (12, .bool r161.2), (13, .int .i64 r179.1), (14, .bool r179.2)] _ from (At.cons hat hv10)) rfl (ov_addS rfl rfl hl245) s263.sub (by exact rfl)
     ·intro a w261 h262 s263 hat hF
      exact front_val (show At _ [(1, .pointer (some ⟨b7, 0, none⟩)), (9, .int .i64 r140.1), (10, .string r140.2), (11, .int .i64 r161.1), (12, .bool r161.2), (13, .int .i64 r179.1), (14, .bool r179.2)] _ from hat) rfl (ov_move rfl) s263.sub (by exact rfl)
     ·intro a w261 h262 s263 hat hF
      obtain hv11 := hF 11 127 rfl rfl
      obtain hv12 := hF 12 128 rfl rfl
      exact front_val (show At _ [(128, .string r140.2), (127, .string (r243 ++ (⟨#[32]⟩ : ByteArray))), (1, .pointer (some ⟨b7, 0, none⟩)), (9, .int .i64 r140.1), (10, .string r140.2), (11, .int .i64 r161.1), (12, .bool r161.2), (13, .int .i64 r179.1), (14, .bool r179.2)] _ from (At.cons (At.cons hat hv11) hv12)) rfl (ov_addS rfl rfl hl246) s263.sub (by exact rfl)
     ·intro a w261 h262 s263 hat hF
      obtain hv13 := hF 13 129 rfl rfl
      exact front_val (show At _ [(129, .string ((r243 ++ (⟨#[32]⟩ : ByteArray)) ++ r140.2)), (1, .pointer (some ⟨b7, 0, none⟩)), (9, .int .i64 r140.1), (10, .string r140.2), (11, .int .i64 r161.1), (12, .bool r161.2), (13, .int .i64 r179.1), (14, .bool r179.2)] _ from (At.cons hat hv13)) rfl (ov_addS rfl rfl hl247) s263.sub (by exact rfl)
     ·intro a w261 h262 s263 hat hF
      exact front_val (show At _ [(1, .pointer (some ⟨b7, 0, none⟩)), (9, .int .i64 r140.1), (10, .string r140.2), (11, .int .i64 r161.1), (12, .bool r161.2), (13, .int .i64 r179.1), (14, .bool r179.2)] _ from hat) rfl (ov_fieldAddr rfl t_field_32_5) s263.sub (by exact rfl)
     ·intro a w261 h262 s263 hat hF
      obtain hv15 := hF 15 131 rfl rfl
      have ob268 := ((ob168.step0 s184).step0 s263)
      exact front_val (show At _ [(131, .pointer (some ⟨b7, 5, none⟩)), (1, .pointer (some ⟨b7, 0, none⟩)), (9, .int .i64 r140.1), (10, .string r140.2), (11, .int .i64 r161.1), (12, .bool r161.2), (13, .int .i64 r179.1), (14, .bool r179.2)] _ from (At.cons hat hv15)) rfl (ov_load1 rfl t_agg_30 (OB.cell ob268 (j := 5) rfl)) s263.sub (by exact rfl)
     ·intro a w261 h262 s263 hat hF
      obtain hv16 := hF 16 132 rfl rfl
      exact front_val (show At _ [(132, .slice (some ⟨b153, o154, none⟩) (x1.args).length c149), (1, .pointer (some ⟨b7, 0, none⟩)), (9, .int .i64 r140.1), (10, .string r140.2), (11, .int .i64 r161.1), (12, .bool r161.2), (13, .int .i64 r179.1), (14, .bool r179.2)] _ from (At.cons hat hv16)) rfl (ov_indexAddr rfl rfl t_slice_30 t_size_32 h253 h254) s263.sub (by exact rfl)
     ·intro a w261 h262 s263 hat hF
      obtain hv17 := hF 17 133 rfl rfl
      exact front_val (show At _ [(133, .pointer (some ⟨b153, o154 + Int.toNat 1 * 6, none⟩)), (1, .pointer (some ⟨b7, 0, none⟩)), (9, .int .i64 r140.1), (10, .string r140.2), (11, .int .i64 r161.1), (12, .bool r161.2), (13, .int .i64 r179.1), (14, .bool r179.2)] _ from (At.cons hat hv17)) rfl (ov_loadN (cs := cs255) rfl t_agg_32 (by rw [Rp.len (Rp.mono (s263.le) r256)]; exact t_size_32) (fun j v hv => s263.sub.at_ _ _ _ ((fun i v hv => (s263.le).1 _ _ _ (hc257 i v hv)) j v hv))) s263.sub (by exact rfl)
     ·intro a w261 h262 s263 hat hF
      exact front_val (show At _ [(1, .pointer (some ⟨b7, 0, none⟩)), (9, .int .i64 r140.1), (10, .string r140.2), (11, .int .i64 r161.1), (12, .bool r161.2), (13, .int .i64 r179.1), (14, .bool r179.2)] _ from hat) rfl (ov_move rfl) s263.sub (by exact rfl)
     ·intro a w261 h262 s263 hat hF
      obtain hv19 := hF 19 135 rfl rfl
      exact front_val (show At _ [(135, .bool r179.2), (1, .pointer (some ⟨b7, 0, none⟩)), (9, .int .i64 r140.1), (10, .string r140.2), (11, .int .i64 r161.1), (12, .bool r161.2), (13, .int .i64 r179.1), (14, .bool r179.2)] _ from (At.cons hat hv19)) rfl (ov_bool (ov_move rfl) hb258) s263.sub (by exact rfl)
     ·intro a w261 h262 s263 hat hF
      obtain hv20 := hF 20 136 rfl rfl
      exact front_val (show At _ [(136, .bool true), (1, .pointer (some ⟨b7, 0, none⟩)), (9, .int .i64 r140.1), (10, .string r140.2), (11, .int .i64 r161.1), (12, .bool r161.2), (13, .int .i64 r179.1), (14, .bool r179.2)] _ from (At.cons hat hv20)) rfl (ov_move rfl) s263.sub (by exact rfl)
     ·intro a w261 h262 s263 hat hF
      obtain hv20 := hF 20 136 rfl rfl
      exact front_val (show At _ [(136, .bool true), (1, .pointer (some ⟨b7, 0, none⟩)), (9, .int .i64 r140.1), (10, .string r140.2), (11, .int .i64 r161.1), (12, .bool r161.2), (13, .int .i64 r179.1), (14, .bool r179.2)] _ from (At.cons hat hv20)) rfl (ov_move rfl) s263.sub (by exact rfl)
     ·intro a w261 h262 s263 hat hF
      obtain hv20 := hF 20 136 rfl rfl
      obtain hv21 := hF 21 137 rfl rfl
      obtain hv22 := hF 22 138 rfl rfl
      exact front_val (show At _ [(138, .int .i64 r140.1), (137, .int .i64 r179.1), (136, .bool true), (1, .pointer (some ⟨b7, 0, none⟩)), (9, .int .i64 r140.1), (10, .string r140.2), (11, .int .i64 r161.1), (12, .bool r161.2), (13, .int .i64 r179.1), (14, .bool r179.2)] _ from (At.cons (At.cons (At.cons hat hv20) hv21) hv22)) rfl (ov_leq rfl rfl) s263.sub (by exact rfl)
     ·intro a w261 h262 s263 hat hF
      obtain hv20 := hF 20 136 rfl rfl
      obtain hv23 := hF 23 139 rfl rfl
      exact front_val (show At _ [(139, .bool (decide ((r179.1 : Int) ≤ r140.1))), (136, .bool true), (1, .pointer (some ⟨b7, 0, none⟩)), (9, .int .i64 r140.1), (10, .string r140.2), (11, .int .i64 r161.1), (12, .bool r161.2), (13, .int .i64 r179.1), (14, .bool r179.2)] _ from (At.cons (At.cons hat hv20) hv23)) rfl (ov_pickT rfl rfl) s263.sub (by exact rfl)
     ·intro a w261 h262 s263 hat hF
      obtain hv18 := hF 18 134 rfl rfl
      obtain hv24 := hF 24 140 rfl rfl
      refine front_call (show At _ [(140, .bool (decide ((r179.1 : Int) ≤ r140.1))), (134, .agg cs255.toArray), (1, .pointer (some ⟨b7, 0, none⟩)), (9, .int .i64 r140.1), (10, .string r140.2), (11, .int .i64 r161.1), (12, .bool r161.2), (13, .int .i64 r179.1), (14, .bool r179.2)] _ from (At.cons (At.cons hat hv18) hv24)) rfl (oc_func (vs := [.agg cs255.toArray, .bool (decide ((r179.1 : Int) ≤ r140.1))]) rfl t_ent_31) ((IH _ (Nat.le_refl _)).2.2 hr260 s263.sub (Rp.mono (s263.le) r256)) ?_
      rintro _ w269 ⟨h270, s271, rfl⟩
      exact ⟨_, h270, rfl, s271, (by exact rfl)⟩
    ·intro a w261 h262 s263 hat hF
     obtain hv0 := hF 0 116 (by decide) rfl
     obtain hv1 := hF 1 117 (by decide) rfl
     obtain hv2 := hF 2 118 (by decide) rfl
     obtain hv3 := hF 3 119 (by decide) rfl
     obtain hv4 := hF 4 120 (by decide) rfl
     obtain hv5 := hF 5 121 (by decide) rfl
     obtain hv6 := hF 6 122 (by decide) rfl
     obtain hv7 := hF 7 123 (by decide) rfl
     obtain hv8 := hF 8 124 (by decide) rfl
     obtain hv9 := hF 9 125 (by decide) rfl
     obtain hv10 := hF 10 126 (by decide) rfl
     obtain hv11 := hF 11 127 (by decide) rfl
     obtain hv12 := hF 12 128 (by decide) rfl
     obtain hv13 := hF 13 129 (by decide) rfl
     obtain hv14 := hF 14 130 (by decide) rfl
     obtain hv15 := hF 15 131 (by decide) rfl
     obtain hv16 := hF 16 132 (by decide) rfl
     obtain hv17 := hF 17 133 (by decide) rfl
     obtain hv18 := hF 18 134 (by decide) rfl
     obtain hv19 := hF 19 135 (by decide) rfl
     obtain hv20 := hF 20 136 (by decide) rfl
     obtain hv21 := hF 21 137 (by decide) rfl
     obtain hv22 := hF 22 138 (by decide) rfl
     obtain hv23 := hF 23 139 (by decide) rfl
     obtain hv24 := hF 24 140 (by decide) rfl
     obtain hv25 := hF 25 141 (by decide) rfl
     refine WL.at_ [(141, .string r259), (140, .bool (decide ((r179.1 : Int) ≤ r140.1))), (139, .bool (decide ((r179.1 : Int) ≤ r140.1))), (138, .int .i64 r140.1), (137, .int .i64 r179.1), (136, .bool true), (135, .bool r179.2), (134, .agg cs255.toArray), (133, .pointer (some ⟨b153, o154 + Int.toNat 1 * 6, none⟩)), (132, .slice (some ⟨b153, o154, none⟩) (x1.args).length c149), (131, .pointer (some ⟨b7, 5, none⟩)), (130, .string (((r243 ++ (⟨#[32]⟩ : ByteArray)) ++ r140.2) ++ (⟨#[32]⟩ : ByteArray))), (129, .string ((r243 ++ (⟨#[32]⟩ : ByteArray)) ++ r140.2)), (128, .string r140.2), (127, .string (r243 ++ (⟨#[32]⟩ : ByteArray))), (126, .string r243), (125, .bool false), (124, undef), (123, undef), (122, undef), (121, .bool false), (120, .bool r161.2), (119, .agg cs193.toArray), (118, .pointer (some ⟨b153, o154 + Int.toNat 0 * 6, none⟩)), (117, .slice (some ⟨b153, o154, none⟩) (x1.args).length c149), (116, .pointer (some ⟨b7, 5, none⟩)), (1, .pointer (some ⟨b7, 0, none⟩)), (9, .int .i64 r140.1), (10, .string r140.2), (11, .int .i64 r161.1), (12, .bool r161.2), (13, .int .i64 r179.1), (14, .bool r179.2)] (At.cons (At.cons (At.cons (At.cons (At.cons (At.cons (At.cons (At.cons (At.cons (At.cons (At.cons (At.cons (At.cons (At.cons (At.cons (At.cons (At.cons (At.cons (At.cons (At.cons (At.cons (At.cons (At.cons (At.cons (At.cons (At.cons hat hv0) hv1) hv2) hv3) hv4) hv5) hv6) hv7) hv8) hv9) hv10) hv11) hv12) hv13) hv14) hv15) hv16) hv17) hv18) hv19) hv20) hv21) hv22) hv23) hv24) hv25) ?_
     have S272 := S185.trans0 s263
     obtain ⟨hl273, HF⟩ := ite_none HF
     refine WL.val rfl rfl rfl (ov_addS rfl rfl hl273) <| WL.val rfl rfl rfl (ov_assign rfl) <| WL.nil <| WQ.seqN <| WC.ret <| WQ.ret1 rfl rfl ?_
     obtain rfl := Option.some.inj HF
     exact ⟨_, rfl, h262, S272, rfl⟩
   ·replace HF := bif_f hb258 HF
    obtain ⟨r274, hr275, HF⟩ := bind_some HF
    refine WC.drawn (m := 26) [(1, .pointer (some ⟨b7, 0, none⟩)), (9, .int .i64 r140.1), (10, .string r140.2), (11, .int .i64 r161.1), (12, .bool r161.2), (13, .int .i64 r179.1), (14, .bool r179.2)] [1, 9, 10, 11, 12, 13, 14] rfl (fun i v w h => match i with | 0 => v = .pointer (some ⟨b7, 5, none⟩) | 1 => v = .slice (some ⟨b153, o154, none⟩) (x1.args).length c149 | 2 => v = .pointer (some ⟨b153, o154 + Int.toNat 0 * 6, none⟩) | 3 => v = .agg cs193.toArray | 4 => v = .bool r161.2 | 5 => v = .bool false | 6 => v = undef | 7 => v = undef | 8 => v = undef | 9 => v = .bool false | 10 => v = .string r243 | 11 => v = .string (r243 ++ (⟨#[32]⟩ : ByteArray)) | 12 => v = .string r140.2 | 13 => v = .string ((r243 ++ (⟨#[32]⟩ : ByteArray)) ++ r140.2) | 14 => v = .string (((r243 ++ (⟨#[32]⟩ : ByteArray)) ++ r140.2) ++ (⟨#[32]⟩ : ByteArray)) | 15 => v = .pointer (some ⟨b7, 5, none⟩) | 16 => v = .slice (some ⟨b153, o154, none⟩) (x1.args).length c149 | 17 => v = .pointer (some ⟨b153, o154 + Int.toNat 1 * 6, none⟩) | 18 => v = .agg cs255.toArray | 19 => v = .bool r179.2 | 20 => v = .bool false | 21 => v = undef | 22 => v = undef | 23 => v = undef | 24 => v = .bool false | 25 => v = .string r274 | _ => True) t_mixed S185.sub rfl rfl rfl rfl rfl ?_ ?_ ?_
    ·intro i v w h w2 h2 hΦ hst
     match i, hΦ with
     | 0, hΦ => exact hΦ
     | 1, hΦ => exact hΦ
     | 2, hΦ => exact hΦ
     | 3, hΦ => exact hΦ
     | 4, hΦ => exact hΦ
     | 5, hΦ => exact hΦ
     | 6, hΦ => exact hΦ
     | 7, hΦ => exact hΦ
     | 8, hΦ => exact hΦ
     | 9, hΦ => exact hΦ
     | 10, hΦ => exact hΦ
     | 11, hΦ => exact hΦ
     | 12, hΦ => exact hΦ
     | 13, hΦ => exact hΦ
     | 14, hΦ => exact hΦ
     | 15, hΦ => exact hΦ
     | 16, hΦ => exact hΦ
     | 17, hΦ => exact hΦ
     | 18, hΦ => exact hΦ
     | 19, hΦ => exact hΦ
     | 20, hΦ => exact hΦ
     | 21, hΦ => exact hΦ
     | 22, hΦ => exact hΦ
     | 23, hΦ => exact hΦ
     | 24, hΦ => exact hΦ
     | 25, hΦ => exact hΦ
     | i + 26, _ => exact trivial
    ·refine ⟨?_, ?_, ?_, ?_, ?_, ?_, ?_, ?_, ?_, ?_, ?_, ?_, ?_, ?_, ?_, ?_, ?_, ?_, ?_, ?_, ?_, ?_, ?_, ?_, ?_, ?_, trivial⟩
     ·intro a w276 h277 s278 hat hF
      exact front_val (show At _ [(1, .pointer (some ⟨b7, 0, none⟩)), (9, .int .i64 r140.1), (10, .string r140.2), (11, .int .i64 r161.1), (12, .bool r161.2), (13, .int .i64 r179.1), (14, .bool r179.2)] _ from hat) rfl (ov_fieldAddr rfl t_field_32_5) s278.sub (by exact rfl)
     ·intro a w276 h277 s278 hat hF
      obtain hv0 := hF 0 116 rfl rfl
      have ob279 := ((ob168.step0 s184).step0 s278)
      exact front_val (show At _ [(116, .pointer (some ⟨b7, 5, none⟩)), (1, .pointer (some ⟨b7, 0, none⟩)), (9, .int .i64 r140.1), (10, .string r140.2), (11, .int .i64 r161.1), (12, .bool r161.2), (13, .int .i64 r179.1), (14, .bool r179.2)] _ from (At.cons hat hv0)) rfl (ov_load1 rfl t_agg_30 (OB.cell ob279 (j := 5) rfl)) s278.sub (by exact rfl)
     ·intro a w276 h277 s278 hat hF
      obtain hv1 := hF 1 117 rfl rfl
      exact front_val (show At _ [(117, .slice (some ⟨b153, o154, none⟩) (x1.args).length c149), (1, .pointer (some ⟨b7, 0, none⟩)), (9, .int .i64 r140.1), (10, .string r140.2), (11, .int .i64 r161.1), (12, .bool r161.2), (13, .int .i64 r179.1), (14, .bool r179.2)] _ from (At.cons hat hv1)) rfl (ov_indexAddr rfl rfl t_slice_30 t_size_32 h191 h192) s278.sub (by exact rfl)
     ·intro a w276 h277 s278 hat hF
      obtain hv2 := hF 2 118 rfl rfl
      exact front_val (show At _ [(118, .pointer (some ⟨b153, o154 + Int.toNat 0 * 6, none⟩)), (1, .pointer (some ⟨b7, 0, none⟩)), (9, .int .i64 r140.1), (10, .string r140.2), (11, .int .i64 r161.1), (12, .bool r161.2), (13, .int .i64 r179.1), (14, .bool r179.2)] _ from (At.cons hat hv2)) rfl (ov_loadN (cs := cs193) rfl t_agg_32 (by rw [Rp.len (Rp.mono (s278.le) r194)]; exact t_size_32) (fun j v hv => s278.sub.at_ _ _ _ ((fun i v hv => (s278.le).1 _ _ _ (hc195 i v hv)) j v hv))) s278.sub (by exact rfl)
     ·intro a w276 h277 s278 hat hF
      exact front_val (show At _ [(1, .pointer (some ⟨b7, 0, none⟩)), (9, .int .i64 r140.1), (10, .string r140.2), (11, .int .i64 r161.1), (12, .bool r161.2), (13, .int .i64 r179.1), (14, .bool r179.2)] _ from hat) rfl (ov_move rfl) s278.sub (by exact rfl)
     ·intro a w276 h277 s278 hat hF
      obtain hv4 := hF 4 120 rfl rfl
      exact front_val (show At _ [(120, .bool r161.2), (1, .pointer (some ⟨b7, 0, none⟩)), (9, .int .i64 r140.1), (10, .string r140.2), (11, .int .i64 r161.1), (12, .bool r161.2), (13, .int .i64 r179.1), (14, .bool r179.2)] _ from (At.cons hat hv4)) rfl (ov_bool (ov_move rfl) hb196) s278.sub (by exact rfl)
     ·intro a w276 h277 s278 hat hF
      obtain hv5 := hF 5 121 rfl rfl
      exact front_skip (show At _ [(121, .bool false), (1, .pointer (some ⟨b7, 0, none⟩)), (9, .int .i64 r140.1), (10, .string r140.2), (11, .int .i64 r161.1), (12, .bool r161.2), (13, .int .i64 r179.1), (14, .bool r179.2)] _ from (At.cons hat hv5)) rfl (by exact rfl)
     ·intro a w276 h277 s278 hat hF
      obtain hv5 := hF 5 121 rfl rfl
      exact front_skip (show At _ [(121, .bool false), (1, .pointer (some ⟨b7, 0, none⟩)), (9, .int .i64 r140.1), (10, .string r140.2), (11, .int .i64 r161.1), (12, .bool r161.2), (13, .int .i64 r179.1), (14, .bool r179.2)] _ from (At.cons hat hv5)) rfl (by exact rfl)
     ·intro a w276 h277 s278 hat hF
      obtain hv5 := hF 5 121 rfl rfl
      obtain hv6 := hF 6 122 rfl rfl
      obtain hv7 := hF 7 123 rfl rfl
      exact front_skip (show At _ [(123, undef), (122, undef), (121, .bool false), (1, .pointer (some ⟨b7, 0, none⟩)), (9, .int .i64 r140.1), (10, .string r140.2), (11, .int .i64 r161.1), (12, .bool r161.2), (13, .int .i64 r179.1), (14, .bool r179.2)] _ from (At.cons (At.cons (At.cons hat hv5) hv6) hv7)) rfl (by exact rfl)
     ·intro a w276 h277 s278 hat hF
      obtain hv5 := hF 5 121 rfl rfl
      obtain hv8 := hF 8 124 rfl rfl
      exact front_val (show At _ [(124, undef), (121, .bool false), (1, .pointer (some ⟨b7, 0, none⟩)), (9, .int .i64 r140.1), (10, .string r140.2), (11, .int .i64 r161.1), (12, .bool r161.2), (13, .int .i64 r179.1), (14, .bool r179.2)] _ from (At.cons (At.cons hat hv5) hv8)) rfl (ov_pickF rfl rfl) s278.sub (by exact rfl)
     ·intro a w276 h277 s278 hat hF
      obtain hv3 := hF 3 119 rfl rfl
      obtain hv9 := hF 9 125 rfl rfl
      refine front_call (show At _ [(125, .bool false), (119, .agg cs193.toArray), (1, .pointer (some ⟨b7, 0, none⟩)), (9, .int .i64 r140.1), (10, .string r140.2), (11, .int .i64 r161.1), (12, .bool r161.2), (13, .int .i64 r179.1), (14, .bool r179.2)] _ from (At.cons (At.cons hat hv3) hv9)) rfl (oc_func (vs := [.agg cs193.toArray, .bool false]) rfl t_ent_31) ((IH _ (Nat.le_refl _)).2.2 hr244 s278.sub (Rp.mono (s278.le) r194)) ?_
      rintro _ w280 ⟨h281, s282, rfl⟩
      exact ⟨_, h281, rfl, s282, (by exact rfl)⟩
     ·intro a w276 h277 s278 hat hF
      obtain hv10 := hF 10 126 rfl rfl
      exact front_val (show At _ [(126, .string r243), (1, .pointer (some ⟨b7, 0, none⟩)), (9, .int .i64 r140.1), (10, .string r140.2), (11, .int .i64 r161.1), (12, .bool r161.2), (13, .int .i64 r179.1), (14, .bool r179.2)] _ from (At.cons hat hv10)) rfl (ov_addS rfl rfl hl245) s278.sub (by exact rfl)
     ·intro a w276 h277 s278 hat hF
      exact front_val (show At _ [(1, .pointer (some ⟨b7, 0, none⟩)), (9, .int .i64 r140.1), (10, .string r140.2), (11, .int .i64 r161.1), (12, .bool r161.2), (13, .int .i64 r179.1), (14, .bool r179.2)] _ from hat) rfl (ov_move rfl) s278.sub (by exact rfl)
     ·intro a w276 h277 s278 hat hF
      obtain hv11 := hF 11 127 rfl rfl
      obtain hv12 := hF 12 128 rfl rfl
      exact front_val (show At _ [(128, .string r140.2), (127, .string (r243 ++ (⟨#[32]⟩ : ByteArray))), (1, .pointer (some ⟨b7, 0, none⟩)), (9, .int .i64 r140.1), (10, .string r140.2), (11, .int .i64 r161.1), (12, .bool r161.2), (13, .int .i64 r179.1), (14, .bool r179.2)] _ from (At.cons (At.cons hat hv11) hv12)) rfl (ov_addS rfl rfl hl246) s278.sub (by exact rfl)
     ·intro a w276 h277 s278 hat hF
      obtain hv13 := hF 13 129 rfl rfl
      exact front_val (show At _ [(129, .string ((r243 ++ (⟨#[32]⟩ : ByteArray)) ++ r140.2)), (1, .pointer (some ⟨b7, 0, none⟩)), (9, .int .i64 r140.1), (10, .string r140.2), (11, .int .i64 r161.1), (12, .bool r161.2), (13, .int .i64 r179.1), (14, .bool r179.2)] _ from (At.cons hat hv13)) rfl (ov_addS rfl rfl hl247) s278.sub (by exact rfl)
     ·intro a w276 h277 s278 hat hF
      exact front_val (show At _ [(1, .pointer (some ⟨b7, 0, none⟩)), (9, .int .i64 r140.1), (10, .string r140.2), (11, .int .i64 r161.1), (12, .bool r161.2), (13, .int .i64 r179.1), (14, .bool r179.2)] _ from hat) rfl (ov_fieldAddr rfl t_field_32_5) s278.sub (by exact rfl)
     ·intro a w276 h277 s278 hat hF
      obtain hv15 := hF 15 131 rfl rfl
      have ob283 := ((ob168.step0 s184).step0 s278)
      exact front_val (show At _ [(131, .pointer (some ⟨b7, 5, none⟩)), (1, .pointer (some ⟨b7, 0, none⟩)), (9, .int .i64 r140.1), (10, .string r140.2), (11, .int .i64 r161.1), (12, .bool r161.2), (13, .int .i64 r179.1), (14, .bool r179.2)] _ from (At.cons hat hv15)) rfl (ov_load1 rfl t_agg_30 (OB.cell ob283 (j := 5) rfl)) s278.sub (by exact rfl)
     ·intro a w276 h277 s278 hat hF
      obtain hv16 := hF 16 132 rfl rfl
      exact front_val (show At _ [(132, .slice (some ⟨b153, o154, none⟩) (x1.args).length c149), (1, .pointer (some ⟨b7, 0, none⟩)), (9, .int .i64 r140.1), (10, .string r140.2), (11, .int .i64 r161.1), (12, .bool r161.2), (13, .int .i64 r179.1), (14, .bool r179.2)] _ from (At.cons hat hv16)) rfl (ov_indexAddr rfl rfl t_slice_30 t_size_32 h253 h254) s278.sub (by exact rfl)
     ·intro a w276 h277 s278 hat hF
      obtain hv17 := hF 17 133 rfl rfl
      exact front_val (show At _ [(133, .pointer (some ⟨b153, o154 + Int.toNat 1 * 6, none⟩)), (1, .pointer (some ⟨b7, 0, none⟩)), (9, .int .i64 r140.1), (10, .string r140.2), (11, .int .i64 r161.1), (12, .bool r161.2), (13, .int .i64 r179.1), (14, .bool r179.2)] _ from (At.cons hat hv17)) rfl (ov_loadN (cs := cs255) rfl t_agg_32 (by rw [Rp.len (Rp.mono (s278.le) r256)]; exact t_size_32) (fun j v hv => s278.sub.at_ _ _ _ ((fun i v hv => (s278.le).1 _ _ _ (hc257 i v hv)) j v hv))) s278.sub (by exact rfl)
     ·intro a w276 h277 s278 hat hF
      exact front_val (show At _ [(1, .pointer (some ⟨b7, 0, none⟩)), (9, .int .i64 r140.1), (10, .string r140.2), (11, .int .i64 r161.1), (12, .bool r161.2), (13, .int .i64 r179.1), (14, .bool r179.2)] _ from hat) rfl (ov_move rfl) s278.sub (by exact rfl)
     ·intro a w276 h277 s278 hat hF
      obtain hv19 := hF 19 135 rfl rfl
      exact front_val (show At _ [(135, .bool r179.2), (1, .pointer (some ⟨b7, 0, none⟩)), (9, .int .i64 r140.1), (10, .string r140.2), (11, .int .i64 r161.1), (12, .bool r161.2), (13, .int .i64 r179.1), (14, .bool r179.2)] _ from (At.cons hat hv19)) rfl (ov_bool (ov_move rfl) hb258) s278.sub (by exact rfl)
     ·intro a w276 h277 s278 hat hF
      obtain hv20 := hF 20 136 rfl rfl
      exact front_skip (show At _ [(136, .bool false), (1, .pointer (some ⟨b7, 0, none⟩)), (9, .int .i64 r140.1), (10, .string r140.2), (11, .int .i64 r161.1), (12, .bool r161.2), (13, .int .i64 r179.1), (14, .bool r179.2)] _ from (At.cons hat hv20)) rfl (by exact rfl)
     ·intro a w276 h277 s278 hat hF
      obtain hv20 := hF 20 136 rfl rfl
      exact front_skip (show At _ [(136, .bool false), (1, .pointer (some ⟨b7, 0, none⟩)), (9, .int .i64 r140.1), (10, .string r140.2), (11, .int .i64 r161.1), (12, .bool r161.2), (13, .int .i64 r179.1), (14, .bool r179.2)] _ from (At.cons hat hv20)) rfl (by exact rfl)
     ·intro a w276 h277 s278 hat hF
      obtain hv20 := hF 20 136 rfl rfl
      obtain hv21 := hF 21 137 rfl rfl
      obtain hv22 := hF 22 138 rfl rfl
      exact front_skip (show At _ [(138, undef), (137, undef), (136, .bool false), (1, .pointer (some ⟨b7, 0, none⟩)), (9, .int .i64 r140.1), (10, .string r140.2), (11, .int .i64 r161.1), (12, .bool r161.2), (13, .int .i64 r179.1), (14, .bool r179.2)] _ from (At.cons (At.cons (At.cons hat hv20) hv21) hv22)) rfl (by exact rfl)
     ·intro a w276 h277 s278 hat hF
      obtain hv20 := hF 20 136 rfl rfl
      obtain hv23 := hF 23 139 rfl rfl
      exact front_val (show At _ [(139, undef), (136, .bool false), (1, .pointer (some ⟨b7, 0, none⟩)), (9, .int .i64 r140.1), (10, .string r140.2), (11, .int .i64 r161.1), (12, .bool r161.2), (13, .int .i64 r179.1), (14, .bool r179.2)] _ from (At.cons (At.cons hat hv20) hv23)) rfl (ov_pickF rfl rfl) s278.sub (by exact rfl)
     ·intro a w276 h277 s278 hat hF
      obtain hv18 := hF 18 134 rfl rfl
      obtain hv24 := hF 24 140 rfl rfl
      refine front_call (show At _ [(140, .bool false), (134, .agg cs255.toArray), (1, .pointer (some ⟨b7, 0, none⟩)), (9, .int .i64 r140.1), (10, .string r140.2), (11, .int .i64 r161.1), (12, .bool r161.2), (13, .int .i64 r179.1), (14, .bool r179.2)] _ from (At.cons (At.cons hat hv18) hv24)) rfl (oc_func (vs := [.agg cs255.toArray, .bool false]) rfl t_ent_31) ((IH _ (Nat.le_refl _)).2.2 hr275 s278.sub (Rp.mono (s278.le) r256)) ?_
      rintro _ w284 ⟨h285, s286, rfl⟩
      exact ⟨_, h285, rfl, s286, (by exact rfl)⟩
    ·intro a w276 h277 s278 hat hF
     obtain hv0 := hF 0 116 (by decide) rfl
     obtain hv1 := hF 1 117 (by decide) rfl
     obtain hv2 := hF 2 118 (by decide) rfl
     obtain hv3 := hF 3 119 (by decide) rfl
     obtain hv4 := hF 4 120 (by decide) rfl
     obtain hv5 := hF 5 121 (by decide) rfl
     obtain hv6 := hF 6 122 (by decide) rfl
     obtain hv7 := hF 7 123 (by decide) rfl
     obtain hv8 := hF 8 124 (by decide) rfl
     obtain hv9 := hF 9 125 (by decide) rfl
     obtain hv10 := hF 10 126 (by decide) rfl
     obtain hv11 := hF 11 127 (by decide) rfl
     obtain hv12 := hF 12 128 (by decide) rfl
     obtain hv13 := hF 13 129 (by decide) rfl
     obtain hv14 := hF 14 130 (by decide) rfl
     obtain hv15 := hF 15 131 (by decide) rfl
     obtain hv16 := hF 16 132 (by decide) rfl
     obtain hv17 := hF 17 133 (by decide) rfl
     obtain hv18 := hF 18 134 (by decide) rfl
     obtain hv19 := hF 19 135 (by decide) rfl
     obtain hv20 := hF 20 136 (by decide) rfl
     obtain hv21 := hF 21 137 (by decide) rfl
     obtain hv22 := hF 22 138 (by decide) rfl
     obtain hv23 := hF 23 139 (by decide) rfl
     obtain hv24 := hF 24 140 (by decide) rfl
     obtain hv25 := hF 25 141 (by decide) rfl
     refine WL.at_ [(141, .string r274), (140, .bool false), (139, undef), (138, undef), (137, undef), (136, .bool false), (135, .bool r179.2), (134, .agg cs255.toArray), (133, .pointer (some ⟨b153, o154 + Int.toNat 1 * 6, none⟩)), (132, .slice (some ⟨b153, o154, none⟩) (x1.args).length c149), (131, .pointer (some ⟨b7, 5, none⟩)), (130, .string (((r243 ++ (⟨#[32]⟩ : ByteArray)) ++ r140.2) ++ (⟨#[32]⟩ : ByteArray))), (129, .string ((r243 ++ (⟨#[32]⟩ : ByteArray)) ++ r140.2)), (128, .string r140.2), (127, .string (r243 ++ (⟨#[32]⟩ : ByteArray))), (126, .string r243), (125, .bool false), (124, undef), (123, undef), (122, undef), (121, .bool false), (120, .bool r161.2), (119, .agg cs193.toArray), (118, .pointer (some ⟨b153, o154 + Int.toNat 0 * 6, none⟩)), (117, .slice (some ⟨b153, o154, none⟩) (x1.args).length c149), (116, .pointer (some ⟨b7, 5, none⟩)), (1, .pointer (some ⟨b7, 0, none⟩)), (9, .int .i64 r140.1), (10, .string r140.2), (11, .int .i64 r161.1), (12, .bool r161.2), (13, .int .i64 r179.1), (14, .bool r179.2)] (At.cons (At.cons (At.cons (At.cons (At.cons (At.cons (At.cons (At.cons (At.cons (At.cons (At.cons (At.cons (At.cons (At.cons (At.cons (At.cons (At.cons (At.cons (At.cons (At.cons (At.cons (At.cons (At.cons (At.cons (At.cons (At.cons hat hv0) hv1) hv2) hv3) hv4) hv5) hv6) hv7) hv8) hv9) hv10) hv11) hv12) hv13) hv14) hv15) hv16) hv17) hv18) hv19) hv20) hv21) hv22) hv23) hv24) hv25) ?_
     have S287 := S185.trans0 s278
     obtain ⟨hl288, HF⟩ := ite_none HF
     refine WL.val rfl rfl rfl (ov_addS rfl rfl hl288) <| WL.val rfl rfl rfl (ov_assign rfl) <| WL.nil <| WQ.seqN <| WC.ret <| WQ.ret1 rfl rfl ?_
     obtain rfl := Option.some.inj HF
     exact ⟨_, rfl, h277, S287, rfl⟩
 ·intro J289
  refine WC.seq <| WC.region <| WL.val rfl rfl rfl (ov_fieldAddr rfl t_field_32_0) <| WL.val rfl rfl rfl (ov_load1 rfl t_agg_3 (OB.cell ob10 (j := 0) rfl)) <| WL.nil <| WQ.seqN <| WC.block <| WC.seq <| WC.region <| WL.val rfl rfl rfl (ov_eql rfl rfl) <| WL.val rfl rfl rfl (ov_assign rfl) <| WL.nil <| WQ.seqN <| WC.cond (b := (x1.op : Int) == 1) rfl (fun hb13 => ?_) (fun hb13 => ?_)
  ·replace HF := bif_t hb13 HF
   refine WC.seq <| WC.region <| WL.val rfl rfl rfl (ov_fieldAddr rfl t_field_32_1) <| WL.val rfl rfl rfl (ov_load1 rfl t_agg_3 (OB.cell ob10 (j := 1) rfl)) <| WL.val rfl rfl rfl (ov_fieldAddr rfl t_field_32_2) <| WL.val rfl rfl rfl (ov_load1 rfl t_agg_3 (OB.cell ob10 (j := 2) rfl)) ?_
   obtain ⟨r14, hr15, HF⟩ := bind_some HF
   refine WL.call rfl rfl rfl (oc_func (vs := [.int .i64 x1.kind, .int .i64 x1.n]) rfl t_ent_18) (ok_ref03_Const _ hr15 S12.sub) ?_
   rintro _ w17 ⟨h18, s19, _, _, rfl, rfl, rfl⟩
   have S20 := S12.trans0 s19
   refine WL.val rfl rfl rfl (ov_move rfl) <| WL.val rfl rfl rfl (ov_extract rfl rfl) <| WL.val rfl rfl rfl (ov_extract rfl rfl) <| WL.val rfl rfl rfl (ov_assign rfl) <| WL.val rfl rfl rfl (ov_assign rfl) <| WL.nil <| WQ.seqN <| WC.seq <| WC.region <| WL.val rfl rfl rfl (ov_move rfl) <| WL.val rfl rfl rfl (ov_assign rfl) <| WL.nil <| WQ.seqN <| WC.ret <| WQ.blockRet <| WQ.thenRet <| WQ.ret1 rfl rfl ?_
   obtain rfl := Option.some.inj HF
   exact ⟨_, rfl, h18, S20, rfl⟩
  ·replace HF := bif_f hb13 HF
   refine WC.seq <| WC.region <| WL.val rfl rfl rfl (ov_eql rfl rfl) <| WL.val rfl rfl rfl (ov_assign rfl) <| WL.nil <| WQ.seqN <| WC.cond (b := (x1.op : Int) == 2) rfl (fun hb21 => ?_) (fun hb21 => ?_)
   ·replace HF := bif_t hb21 HF
    refine WC.seq <| WC.region <| WL.val rfl rfl rfl (ov_fieldAddr rfl t_field_32_3) <| WL.val rfl rfl rfl (ov_load1 rfl t_agg_9 (OB.cell ob10 (j := 3) rfl)) <| WL.val rfl rfl rfl (ov_assign rfl) <| WL.nil <| WQ.seqN <| WC.ret <| WQ.blockRet <| WQ.thenRet <| WQ.ret1 rfl rfl ?_
    obtain rfl := Option.some.inj HF
    exact ⟨_, rfl, h0, S12, rfl⟩
   ·replace HF := bif_f hb21 HF
    refine WC.seq <| WC.region <| WL.val rfl rfl rfl (ov_eql rfl rfl) <| WL.val rfl rfl rfl (ov_assign rfl) <| WL.nil <| WQ.seqN <| WC.cond (b := (x1.op : Int) == 3) rfl (fun hb22 => ?_) (fun hb22 => ?_)
    ·replace HF := bif_t hb22 HF
     refine WC.seq <| WC.region <| WL.val rfl rfl rfl (ov_fieldAddr rfl t_field_32_3) <| WL.val rfl rfl rfl (ov_load1 rfl t_agg_9 (OB.cell ob10 (j := 3) rfl)) ?_
     obtain ⟨hl23, HF⟩ := ite_none HF
     refine WL.val rfl rfl rfl (ov_addS rfl rfl hl23) <| WL.val rfl rfl rfl (ov_fieldAddr rfl t_field_32_4) <| WL.val rfl rfl rfl (ov_load1 rfl t_agg_9 (OB.cell ob10 (j := 4) rfl)) ?_
     obtain ⟨hl24, HF⟩ := ite_none HF
     refine WL.val rfl rfl rfl (ov_addS rfl rfl hl24) <| WL.val rfl rfl rfl (ov_assign rfl) <| WL.nil <| WQ.seqN <| WC.ret <| WQ.blockRet <| WQ.thenRet <| WQ.ret1 rfl rfl ?_
     obtain rfl := Option.some.inj HF
     exact ⟨_, rfl, h0, S12, rfl⟩
    ·replace HF := bif_f hb22 HF
     refine WC.seq <| WC.region <| WL.val rfl rfl rfl (ov_eql rfl rfl) <| WL.val rfl rfl rfl (ov_assign rfl) <| WL.nil <| WQ.seqN <| WC.cond (b := (x1.op : Int) == 4) rfl (fun hb25 => ?_) (fun hb25 => ?_)
     ·replace HF := bif_t hb25 HF
      refine WC.seq ?_
      obtain ⟨hl26, HF⟩ := ite_none HF
      obtain ⟨r27, hr28, HF⟩ := bind_some HF
      refine WC.drawn (m := 6) [(1, .pointer (some ⟨b7, 0, none⟩)), (2, .string (⟨#[]⟩ : ByteArray))] [1, 2] rfl (fun i v w h => match i with | 0 => v = .pointer (some ⟨b7, 3, none⟩) | 1 => v = .string x1.s | 2 => v = .string (x1.s ++ (⟨#[91]⟩ : ByteArray)) | 3 => v = .pointer (some ⟨b7, 5, none⟩) | 4 => v = v4 | 5 => v = .string r27 | _ => True) t_mixed S12.sub rfl rfl rfl rfl rfl ?_ ?_ ?_
      ·intro i v w h w2 h2 hΦ hst
       match i, hΦ with
       | 0, hΦ => exact hΦ
       | 1, hΦ => exact hΦ
       | 2, hΦ => exact hΦ
       | 3, hΦ => exact hΦ
       | 4, hΦ => exact hΦ
       | 5, hΦ => exact hΦ
       | i + 6, _ => exact trivial
      ·refine ⟨?_, ?_, ?_, ?_, ?_, ?_, trivial⟩
       ·intro a w29 h30 s31 hat hF
        exact front_val (show At _ [(1, .pointer (some ⟨b7, 0, none⟩)), (2, .string (⟨#[]⟩ : ByteArray))] _ from hat) rfl (ov_fieldAddr rfl t_field_32_3) s31.sub (by exact rfl)
       ·intro a w29 h30 s31 hat hF
        obtain hv0 := hF 0 42 rfl rfl
        have ob32 := (ob10.step0 s31)
        exact front_val (show At _ [(42, .pointer (some ⟨b7, 3, none⟩)), (1, .pointer (some ⟨b7, 0, none⟩)), (2, .string (⟨#[]⟩ : ByteArray))] _ from (At.cons hat hv0)) rfl (ov_load1 rfl t_agg_9 (OB.cell ob32 (j := 3) rfl)) s31.sub (by exact rfl)
       ·intro a w29 h30 s31 hat hF
        obtain hv1 := hF 1 43 rfl rfl
        exact front_val (show At _ [(43, .string x1.s), (1, .pointer (some ⟨b7, 0, none⟩)), (2, .string (⟨#[]⟩ : ByteArray))] _ from (At.cons hat hv1)) rfl (ov_addS rfl rfl hl26) s31.sub (by exact rfl)
       ·intro a w29 h30 s31 hat hF
        exact front_val (show At _ [(1, .pointer (some ⟨b7, 0, none⟩)), (2, .string (⟨#[]⟩ : ByteArray))] _ from hat) rfl (ov_fieldAddr rfl t_field_32_5) s31.sub (by exact rfl)
       ·intro a w29 h30 s31 hat hF
        obtain hv3 := hF 3 45 rfl rfl
        have ob33 := (ob10.step0 s31)
        exact front_val (show At _ [(45, .pointer (some ⟨b7, 5, none⟩)), (1, .pointer (some ⟨b7, 0, none⟩)), (2, .string (⟨#[]⟩ : ByteArray))] _ from (At.cons hat hv3)) rfl (ov_load1 rfl t_agg_30 (OB.cell ob33 (j := 5) rfl)) s31.sub (by exact rfl)
       ·intro a w29 h30 s31 hat hF
        obtain hv4 := hF 4 46 rfl rfl
        refine front_call (show At _ [(46, v4), (1, .pointer (some ⟨b7, 0, none⟩)), (2, .string (⟨#[]⟩ : ByteArray))] _ from (At.cons hat hv4)) rfl (oc_func (vs := [v4]) rfl t_ent_29) ((IH _ (Nat.le_refl _)).2.1 hr28 s31.sub (rs5.mono ((s9.le).trans s31.le))) ?_
        rintro _ w34 ⟨h35, s36, rfl⟩
        exact ⟨_, h35, rfl, s36, (by exact rfl)⟩
      ·intro a w29 h30 s31 hat hF
       obtain hv0 := hF 0 42 (by decide) rfl
       obtain hv1 := hF 1 43 (by decide) rfl
       obtain hv2 := hF 2 44 (by decide) rfl
       obtain hv3 := hF 3 45 (by decide) rfl
       obtain hv4 := hF 4 46 (by decide) rfl
       obtain hv5 := hF 5 47 (by decide) rfl
       refine WL.at_ [(47, .string r27), (46, v4), (45, .pointer (some ⟨b7, 5, none⟩)), (44, .string (x1.s ++ (⟨#[91]⟩ : ByteArray))), (43, .string x1.s), (42, .pointer (some ⟨b7, 3, none⟩)), (1, .pointer (some ⟨b7, 0, none⟩)), (2, .string (⟨#[]⟩ : ByteArray))] (At.cons (At.cons (At.cons (At.cons (At.cons (At.cons hat hv0) hv1) hv2) hv3) hv4) hv5) ?_
       have S37 := S12.trans0 s31
       obtain ⟨hl38, HF⟩ := ite_none HF
       refine WL.val rfl rfl rfl (ov_addS rfl rfl hl38) ?_
       obtain ⟨hl39, HF⟩ := ite_none HF
       refine WL.val rfl rfl rfl (ov_addS rfl rfl hl39) <| WL.val rfl rfl rfl (ov_assign rfl) <| WL.nil <| WQ.seqN <| WC.ret <| WQ.blockRet <| WQ.thenRet <| WQ.ret1 rfl rfl ?_
       obtain rfl := Option.some.inj HF
       exact ⟨_, rfl, h30, S37, rfl⟩
     ·replace HF := bif_f hb25 HF
      refine WC.seq <| WC.region <| WL.val rfl rfl rfl (ov_eql rfl rfl) <| WL.val rfl rfl rfl (ov_assign rfl) <| WL.nil <| WQ.seqN <| WC.cond (b := (x1.op : Int) == 5) rfl (fun hb40 => ?_) (fun hb40 => ?_)
      ·replace HF := bif_t hb40 HF
       refine WC.seq ?_
       obtain ⟨hl41, HF⟩ := ite_none HF
       obtain ⟨r42, hr43, HF⟩ := bind_some HF
       refine WC.drawn (m := 6) [(1, .pointer (some ⟨b7, 0, none⟩)), (2, .string (⟨#[]⟩ : ByteArray))] [1, 2] rfl (fun i v w h => match i with | 0 => v = .pointer (some ⟨b7, 3, none⟩) | 1 => v = .string x1.s | 2 => v = .string (x1.s ++ (⟨#[40]⟩ : ByteArray)) | 3 => v = .pointer (some ⟨b7, 5, none⟩) | 4 => v = v4 | 5 => v = .string r42 | _ => True) t_mixed S12.sub rfl rfl rfl rfl rfl ?_ ?_ ?_
       ·intro i v w h w2 h2 hΦ hst
        match i, hΦ with
        | 0, hΦ => exact hΦ
        | 1, hΦ => exact hΦ
        | 2, hΦ => exact hΦ
        | 3, hΦ => exact hΦ
        | 4, hΦ => exact hΦ
        | 5, hΦ => exact hΦ
        | i + 6, _ => exact trivial
       ·refine ⟨?_, ?_, ?_, ?_, ?_, ?_, trivial⟩
        ·intro a w44 h45 s46 hat hF
         exact front_val (show At _ [(1, .pointer (some ⟨b7, 0, none⟩)), (2, .string (⟨#[]⟩ : ByteArray))] _ from hat) rfl (ov_fieldAddr rfl t_field_32_3) s46.sub (by exact rfl)
        ·intro a w44 h45 s46 hat hF
         obtain hv0 := hF 0 52 rfl rfl
         have ob47 := (ob10.step0 s46)
         exact front_val (show At _ [(52, .pointer (some ⟨b7, 3, none⟩)), (1, .pointer (some ⟨b7, 0, none⟩)), (2, .string (⟨#[]⟩ : ByteArray))] _ from (At.cons hat hv0)) rfl (ov_load1 rfl t_agg_9 (OB.cell ob47 (j := 3) rfl)) s46.sub (by exact rfl)
        ·intro a w44 h45 s46 hat hF
         obtain hv1 := hF 1 53 rfl rfl
         exact front_val (show At _ [(53, .string x1.s), (1, .pointer (some ⟨b7, 0, none⟩)), (2, .string (⟨#[]⟩ : ByteArray))] _ from (At.cons hat hv1)) rfl (ov_addS rfl rfl hl41) s46.sub (by exact rfl)
        ·intro a w44 h45 s46 hat hF
         exact front_val (show At _ [(1, .pointer (some ⟨b7, 0, none⟩)), (2, .string (⟨#[]⟩ : ByteArray))] _ from hat) rfl (ov_fieldAddr rfl t_field_32_5) s46.sub (by exact rfl)
        ·intro a w44 h45 s46 hat hF
         obtain hv3 := hF 3 55 rfl rfl
         have ob48 := (ob10.step0 s46)
         exact front_val (show At _ [(55, .pointer (some ⟨b7, 5, none⟩)), (1, .pointer (some ⟨b7, 0, none⟩)), (2, .string (⟨#[]⟩ : ByteArray))] _ from (At.cons hat hv3)) rfl (ov_load1 rfl t_agg_30 (OB.cell ob48 (j := 5) rfl)) s46.sub (by exact rfl)
        ·intro a w44 h45 s46 hat hF
         obtain hv4 := hF 4 56 rfl rfl
         refine front_call (show At _ [(56, v4), (1, .pointer (some ⟨b7, 0, none⟩)), (2, .string (⟨#[]⟩ : ByteArray))] _ from (At.cons hat hv4)) rfl (oc_func (vs := [v4]) rfl t_ent_29) ((IH _ (Nat.le_refl _)).2.1 hr43 s46.sub (rs5.mono ((s9.le).trans s46.le))) ?_
         rintro _ w49 ⟨h50, s51, rfl⟩
         exact ⟨_, h50, rfl, s51, (by exact rfl)⟩
       ·intro a w44 h45 s46 hat hF
        obtain hv0 := hF 0 52 (by decide) rfl
        obtain hv1 := hF 1 53 (by decide) rfl
        obtain hv2 := hF 2 54 (by decide) rfl
        obtain hv3 := hF 3 55 (by decide) rfl
        obtain hv4 := hF 4 56 (by decide) rfl
        obtain hv5 := hF 5 57 (by decide) rfl
        refine WL.at_ [(57, .string r42), (56, v4), (55, .pointer (some ⟨b7, 5, none⟩)), (54, .string (x1.s ++ (⟨#[40]⟩ : ByteArray))), (53, .string x1.s), (52, .pointer (some ⟨b7, 3, none⟩)), (1, .pointer (some ⟨b7, 0, none⟩)), (2, .string (⟨#[]⟩ : ByteArray))] (At.cons (At.cons (At.cons (At.cons (At.cons (At.cons hat hv0) hv1) hv2) hv3) hv4) hv5) ?_
        have S52 := S12.trans0 s46
        obtain ⟨hl53, HF⟩ := ite_none HF
        refine WL.val rfl rfl rfl (ov_addS rfl rfl hl53) ?_
        obtain ⟨hl54, HF⟩ := ite_none HF
        refine WL.val rfl rfl rfl (ov_addS rfl rfl hl54) <| WL.val rfl rfl rfl (ov_assign rfl) <| WL.nil <| WQ.seqN <| WC.ret <| WQ.blockRet <| WQ.thenRet <| WQ.ret1 rfl rfl ?_
        obtain rfl := Option.some.inj HF
        exact ⟨_, rfl, h45, S52, rfl⟩
      ·replace HF := bif_f hb40 HF
       refine WC.seq <| WC.region <| WL.val rfl rfl rfl (ov_eql rfl rfl) <| WL.val rfl rfl rfl (ov_assign rfl) <| WL.nil <| WQ.seqN <| WC.cond (b := (x1.op : Int) == 6) rfl (fun hb55 => ?_) (fun hb55 => ?_)
       ·replace HF := bif_t hb55 HF
        refine WC.seq <| WC.region <| WL.val rfl rfl rfl (ov_fieldAddr rfl t_field_32_5) <| WL.val rfl rfl rfl (ov_load1 rfl t_agg_30 (OB.cell ob10 (j := 5) rfl)) ?_
        obtain ⟨A56, c57, rfl, rs58⟩ := RS.form (rs5.mono (s9.le))
        obtain ⟨e59, he60, HF⟩ := bind_some HF
        obtain ⟨b61, o62, rfl, h64, h65, ra63⟩ := RS.atO rs58 he60
        obtain ⟨cs66, r67, hc68⟩ := ra63
        refine WL.val rfl rfl rfl (ov_indexAddr rfl rfl t_slice_30 t_size_32 h64 h65) <| WL.val rfl rfl rfl (ov_loadN (cs := cs66) rfl t_agg_32 (by rw [Rp.len r67]; exact t_size_32) (fun j v hv => S12.sub.at_ _ _ _ (hc68 j v hv))) ?_
        obtain ⟨r69, hr70, HF⟩ := bind_some HF
        refine WL.call rfl rfl rfl (oc_func (vs := [.agg cs66.toArray]) rfl t_ent_30) (ok_ref03_two _ hr70 S12.sub r67) ?_
        rintro _ w72 ⟨h73, s74, _, _, rfl, rfl, rfl⟩
        have S75 := S12.trans0 s74
        refine WL.val rfl rfl rfl (ov_move rfl) <| WL.val rfl rfl rfl (ov_extract rfl rfl) <| WL.val rfl rfl rfl (ov_extract rfl rfl) <| WL.val rfl rfl rfl (ov_assign rfl) <| WL.val rfl rfl rfl (ov_assign rfl) <| WL.nil <| WQ.seqN <| WC.seq <| WC.region <| WL.val rfl rfl rfl (ov_fieldAddr rfl t_field_32_5) ?_
        have ob76 := (ob10.step0 s74)
        refine WL.val rfl rfl rfl (ov_load1 rfl t_agg_30 (OB.cell ob76 (j := 5) rfl)) ?_
        obtain ⟨e77, he78, HF⟩ := bind_some HF
        obtain ⟨b79, o80, hA, h82, h83, ra81⟩ := RS.atO (rs58.mono (s74.le)) he78
        obtain ⟨rfl, rfl⟩ := some_addr hA
        obtain ⟨cs84, r85, hc86⟩ := ra81
        refine WL.val rfl rfl rfl (ov_indexAddr rfl rfl t_slice_30 t_size_32 h82 h83) <| WL.val rfl rfl rfl (ov_loadN (cs := cs84) rfl t_agg_32 (by rw [Rp.len r85]; exact t_size_32) (fun j v hv => S75.sub.at_ _ _ _ (hc86 j v hv))) <| WL.val rfl rfl rfl (ov_move rfl) ?_
        obtain ⟨r87, hr88, HF⟩ := bind_some HF
        refine WL.call rfl rfl rfl (oc_func (vs := [.agg cs84.toArray, .bool r69.2]) rfl t_ent_31) ((IH _ (Nat.le_refl _)).2.2 hr88 S75.sub r85) ?_
        rintro _ w90 ⟨h91, s92, rfl⟩
        have S93 := S75.trans0 s92
        obtain ⟨hl94, HF⟩ := ite_none HF
        refine WL.val rfl rfl rfl (ov_addS rfl rfl hl94) <| WL.val rfl rfl rfl (ov_assign rfl) <| WL.nil <| WQ.seqN <| WC.ret <| WQ.blockRet <| WQ.thenRet <| WQ.ret1 rfl rfl ?_
        obtain rfl := Option.some.inj HF
        exact ⟨_, rfl, h91, S93, rfl⟩
       ·replace HF := bif_f hb55 HF
        refine WC.seq <| WC.region <| WL.val rfl rfl rfl (ov_eql rfl rfl) <| WL.val rfl rfl rfl (ov_assign rfl) <| WL.nil <| WQ.seqN <| WC.cond (b := (x1.op : Int) == 7) rfl (fun hb95 => ?_) (fun hb95 => ?_)
        ·replace HF := bif_t hb95 HF
         refine WC.seq <| WC.region <| WL.val rfl rfl rfl (ov_fieldAddr rfl t_field_32_5) <| WL.val rfl rfl rfl (ov_load1 rfl t_agg_30 (OB.cell ob10 (j := 5) rfl)) ?_
         obtain ⟨A96, c97, rfl, rs98⟩ := RS.form (rs5.mono (s9.le))
         obtain ⟨e99, he100, HF⟩ := bind_some HF
         obtain ⟨b101, o102, rfl, h104, h105, ra103⟩ := RS.atO rs98 he100
         obtain ⟨cs106, r107, hc108⟩ := ra103
         refine WL.val rfl rfl rfl (ov_indexAddr rfl rfl t_slice_30 t_size_32 h104 h105) <| WL.val rfl rfl rfl (ov_loadN (cs := cs106) rfl t_agg_32 (by rw [Rp.len r107]; exact t_size_32) (fun j v hv => S12.sub.at_ _ _ _ (hc108 j v hv))) ?_
         obtain ⟨r109, hr110, HF⟩ := bind_some HF
         refine WL.call rfl rfl rfl (oc_func (vs := [.agg cs106.toArray]) rfl t_ent_30) (ok_ref03_two _ hr110 S12.sub r107) ?_
         rintro _ w112 ⟨h113, s114, _, _, rfl, rfl, rfl⟩
         have S115 := S12.trans0 s114
         refine WL.val rfl rfl rfl (ov_move rfl) <| WL.val rfl rfl rfl (ov_extract rfl rfl) <| WL.val rfl rfl rfl (ov_extract rfl rfl) <| WL.val rfl rfl rfl (ov_assign rfl) <| WL.val rfl rfl rfl (ov_assign rfl) <| WL.nil <| WQ.seqN <| WC.seq <| WC.region <| WL.val rfl rfl rfl (ov_fieldAddr rfl t_field_32_5) ?_
         have ob116 := (ob10.step0 s114)
         refine WL.val rfl rfl rfl (ov_load1 rfl t_agg_30 (OB.cell ob116 (j := 5) rfl)) ?_
         obtain ⟨e117, he118, HF⟩ := bind_some HF
         obtain ⟨b119, o120, hA, h122, h123, ra121⟩ := RS.atO (rs98.mono (s114.le)) he118
         obtain ⟨rfl, rfl⟩ := some_addr hA
         obtain ⟨cs124, r125, hc126⟩ := ra121
         refine WL.val rfl rfl rfl (ov_indexAddr rfl rfl t_slice_30 t_size_32 h122 h123) <| WL.val rfl rfl rfl (ov_loadN (cs := cs124) rfl t_agg_32 (by rw [Rp.len r125]; exact t_size_32) (fun j v hv => S115.sub.at_ _ _ _ (hc126 j v hv))) <| WL.val rfl rfl rfl (ov_move rfl) ?_
         obtain ⟨r127, hr128, HF⟩ := bind_some HF
         refine WL.call rfl rfl rfl (oc_func (vs := [.agg cs124.toArray, .bool r109.2]) rfl t_ent_31) ((IH _ (Nat.le_refl _)).2.2 hr128 S115.sub r125) ?_
         rintro _ w130 ⟨h131, s132, rfl⟩
         have S133 := S115.trans0 s132
         obtain ⟨hl134, HF⟩ := ite_none HF
         refine WL.val rfl rfl rfl (ov_addS rfl rfl hl134) <| WL.val rfl rfl rfl (ov_assign rfl) <| WL.nil <| WQ.seqN <| WC.ret <| WQ.blockRet <| WQ.thenRet <| WQ.ret1 rfl rfl ?_
         obtain rfl := Option.some.inj HF
         exact ⟨_, rfl, h131, S133, rfl⟩
        ·replace HF := bif_f hb95 HF
         refine WC.skip <| WQ.blockN <| WC.to [1] [(1, .pointer (some ⟨b7, 0, none⟩))] rfl ?_
         exact J289 ⟨h0, HF, rfl, S12, Hle.refl _, ob10⟩
set_option maxRecDepth 20000 in
set_option maxHeartbeats 4000000 in
theorem s_ref03_Exprs (k : Nat) (IH : ∀ j, j ≤ k → C_ref03_Expr (tie_ref03_Expr j).ref03_Expr ∧ C_ref03_Exprs (tie_ref03_Expr j).ref03_Exprs ∧ C_ref03_operand (tie_ref03_Expr j).ref03_operand) : C_ref03_Exprs (m_ref03_Exprs k (tie_ref03_Expr k)) := by
 intro xs1 r HF w0 h0 v2 hs0 rs3
 have S0 : Stp [] w0 h0 w0 h0 := Stp.refl hs0 _
 refine enter (n := 23) Tryz.func29 rfl Tryz.ntmps29 rfl [(0, v2)] rfl <| WC.seq <| WC.region <| WL.val rfl rfl rfl (ov_assign rfl) <| WL.nil <| WQ.seqN <| WC.seq <| WC.region <| WL.val rfl rfl rfl (ov_assign rfl) <| WL.nil <| WQ.seqN <| WC.seq <| WC.seq <| WC.region <| WL.val rfl rfl rfl (ov_assign rfl) <| WL.nil <| WQ.seqN <| WC.block <| WC.loop <| WP.to [0, 3, 4] [(0, v2), (3, .string (⟨#[]⟩ : ByteArray)), (4, .int .i64 0)] rfl <| WP_rule (K := k) (fun j E w5 => ∃ (h4 : Hp) (x8 : ByteArray) (x9 : Int), (tie_ref03_Expr j).ref03_Exprs_l1 xs1 x8 x9 = some r ∧ E = [(0, v2), (3, .string x8), (4, .int .i64 x9)] ∧ Stp [] w0 h0 w5 h4 ∧ Hle h0 h4) ?_ ?_ (j := k) (Nat.le_refl _) ?_
 ·rintro E w5 ⟨_, _, _, HF, _⟩; cases HF
 ·rintro j10 hj12 IHL11 E w5 ⟨h4, x8, x9, HF, rfl, S7, le6⟩
  refine WC.join (fun E w18 => ∃ (h17 : Hp), ref03_Exprs_j2 j10 (tie_ref03_Expr j10) xs1 x8 x9 = some r ∧ E = [(0, v2), (3, .string x8), (4, .int .i64 x9)] ∧ Stp [] w0 h0 w18 h17 ∧ Hle h4 h17) ?_ ?_
  ·rintro E w18 ⟨h17, HF, rfl, S20, le19⟩
   refine WC.join (fun E w51 => ∃ (h50 : Hp) (x54 : ByteArray), ref03_Exprs_j4 j10 (tie_ref03_Expr j10) xs1 x9 x54 = some r ∧ E = [(0, v2), (3, .string x54), (4, .int .i64 x9)] ∧ Stp [] w0 h0 w51 h50 ∧ Hle h17 h50) ?_ ?_
   ·rintro E w51 ⟨h50, x54, HF, rfl, S53, le52⟩
    refine WC.region <| WL.val rfl rfl rfl (ov_move rfl) <| WL.val rfl rfl rfl (ov_add rfl rfl) <| WL.val rfl rfl rfl (ov_assign rfl) <| WL.nil <| WQ.loopN <| WP.to [0, 3, 4] [(0, v2), (3, .string x54), (4, .int .i64 (IntKind.i64.wrap (x9 + 1)))] rfl ?_
    exact IHL11 j10 (Nat.le_refl _) _ _ ⟨h50, x54, IntKind.i64.wrap (x9 + 1), HF, rfl, S53, (le6).trans ((le19).trans le52)⟩
   ·intro J55
    refine WC.block <| WC.join (fun E w24 => ∃ (h23 : Hp) (x27 : ByteArray), ref03_Exprs_j3 j10 (tie_ref03_Expr j10) xs1 x9 x27 = some r ∧ E = [(0, v2), (3, .string x27), (4, .int .i64 x9)] ∧ Stp [] w0 h0 w24 h23 ∧ Hle h17 h23) ?_ ?_
    ·rintro E w24 ⟨h23, x27, HF, rfl, S26, le25⟩
     refine WC.region <| WL.val rfl rfl rfl (ov_move rfl) <| WL.val rfl rfl rfl (ov_move rfl) <| WL.val rfl rfl rfl (ov_move rfl) ?_
     obtain ⟨A28, c29, rfl, rs30⟩ := RS.form (rs3.mono ((le6).trans ((le19).trans le25)))
     obtain ⟨e31, he32, HF⟩ := bind_some HF
     obtain ⟨b33, o34, rfl, h36, h37, ra35⟩ := RS.atO rs30 he32
     obtain ⟨cs38, r39, hc40⟩ := ra35
     refine WL.val rfl rfl rfl (ov_indexAddr rfl rfl t_slice_30 t_size_32 h36 h37) <| WL.val rfl rfl rfl (ov_loadN (cs := cs38) rfl t_agg_32 (by rw [Rp.len r39]; exact t_size_32) (fun j v hv => S26.sub.at_ _ _ _ (hc40 j v hv))) ?_
     obtain ⟨r41, hr42, HF⟩ := bind_some HF
     refine WL.call rfl rfl rfl (oc_func (vs := [.agg cs38.toArray]) rfl t_ent_16) ((IH _ (Nat.le_trans (Nat.le_of_succ_le hj12) (Nat.le_refl _))).1 hr42 S26.sub r39) ?_
     rintro _ w44 ⟨h45, s46, rfl⟩
     have S47 := S26.trans0 s46
     obtain ⟨hl48, HF⟩ := ite_none HF
     refine WL.val rfl rfl rfl (ov_addS rfl rfl hl48) <| WL.val rfl rfl rfl (ov_assign rfl) <| WL.nil <| WQ.blockN <| WC.to [0, 3, 4] [(0, .slice (some ⟨b33, o34, none⟩) (xs1).length c29), (3, .string (x27 ++ r41)), (4, .int .i64 x9)] rfl ?_
     exact J55 ⟨h45, x27 ++ r41, HF, rfl, S47, (le25).trans s46.le⟩
    ·intro J49
     refine WC.seq <| WC.region <| WL.val rfl rfl rfl (ov_move rfl) <| WL.val rfl rfl rfl (ov_gtr rfl rfl) <| WL.nil <| WQ.seqN <| WC.cond (b := decide ((0 : Int) < x9)) rfl (fun hb21 => ?_) (fun hb21 => ?_)
     ·replace HF := bif_t hb21 HF
      refine WC.region <| WL.val rfl rfl rfl (ov_move rfl) ?_
      obtain ⟨hl22, HF⟩ := ite_none HF
      refine WL.val rfl rfl rfl (ov_addS rfl rfl hl22) <| WL.val rfl rfl rfl (ov_assign rfl) <| WL.nil <| WC.to [0, 3, 4] [(0, v2), (3, .string (x8 ++ (⟨#[44, 32]⟩ : ByteArray))), (4, .int .i64 x9)] rfl ?_
      exact J49 ⟨h17, x8 ++ (⟨#[44, 32]⟩ : ByteArray), HF, rfl, S20, Hle.refl _⟩
     ·replace HF := bif_f hb21 HF
      refine WC.skip <| WC.to [0, 3, 4] [(0, v2), (3, .string x8), (4, .int .i64 x9)] rfl ?_
      exact J49 ⟨h17, x8, HF, rfl, S20, Hle.refl _⟩
  ·intro J56
   refine WC.seq <| WC.region <| WL.val rfl rfl rfl (ov_move rfl) <| WL.val rfl rfl rfl (ov_move rfl) ?_
   obtain ⟨A13, c14, rfl, rs15⟩ := RS.form (rs3.mono (le6))
   refine WL.val rfl rfl rfl (ov_lenL rfl t_slice_30) <| WL.val rfl rfl rfl (ov_lss rfl rfl) <| WL.nil <| WQ.seqN <| WC.cond (b := decide ((x9 : Int) < (xs1.length : Int))) rfl (fun hb16 => ?_) (fun hb16 => ?_)
   ·replace HF := bif_t hb16 HF
    refine WC.skip <| WC.to [0, 3, 4] [(0, .slice A13 (xs1).length c14), (3, .string x8), (4, .int .i64 x9)] rfl ?_
    exact J56 ⟨h4, HF, rfl, S7, Hle.refl _⟩
   ·replace HF := bif_f hb16 HF
    refine WC.exit <| WQ.thenExit <| WQ.thenExit <| WQ.blockHit <| WQ.seqN <| WC.seq <| WC.region <| WL.val rfl rfl rfl (ov_move rfl) <| WL.val rfl rfl rfl (ov_assign rfl) <| WL.nil <| WQ.seqN <| WC.ret <| WQ.ret1 rfl rfl ?_
    obtain rfl := Option.some.inj HF
    exact ⟨_, rfl, h4, S7, rfl⟩
 ·exact ⟨h0, (⟨#[]⟩ : ByteArray), 0, HF, rfl, S0, Hle.refl _⟩
set_option maxRecDepth 20000 in
set_option maxHeartbeats 4000000 in
theorem s_ref03_operand (k : Nat) (IH : ∀ j, j ≤ k → C_ref03_Expr (tie_ref03_Expr j).ref03_Expr ∧ C_ref03_Exprs (tie_ref03_Expr j).ref03_Exprs ∧ C_ref03_operand (tie_ref03_Expr j).ref03_operand) : C_ref03_operand (m_ref03_operand k (tie_ref03_Expr k)) := by
 intro x1 x4 r HF w0 h0 cs2 hs0 r3
 have S0 : Stp [] w0 h0 w0 h0 := Stp.refl hs0 _
 refine enter (n := 12) Tryz.func31 rfl Tryz.ntmps31 rfl [(0, .agg cs2.toArray), (1, .bool x4)] rfl <| WC.seq <| WC.region ?_
 obtain ⟨v5, rfl, rs6⟩ := rp_Ex.1 r3
 refine WL.box (cs := [.int .i64 x1.op, .int .i64 x1.kind, .int .i64 x1.n, .string x1.s, .string x1.f, v5]) rfl rfl rfl rfl S0.sub (fun w7 b8 hb9 s10 ob11 => ?_)
 have g12 : w0.heap.size ≤ b8 := by rw [hb9]; exact S0.size
 have S13 := S0.trans0 s10
 refine WL.val rfl rfl rfl (ov_assign rfl) <| WL.nil <| WQ.seqN <| WC.join (fun E w25 => ∃ (h24 : Hp), ref03_operand_j1 k (tie_ref03_Expr k) x1 = some r ∧ E = [(2, .pointer (some ⟨b8, 0, none⟩))] ∧ Stp [] w0 h0 w25 h24 ∧ Hle h0 h24 ∧ OB w25 h24 b8 32 [.int .i64 x1.op, .int .i64 x1.kind, .int .i64 x1.n, .string x1.s, .string x1.f, v5]) ?_ ?_
 ·rintro E w25 ⟨h24, HF, rfl, S27, le26, ob28⟩
  refine WC.seq <| WC.region <| WL.val rfl rfl rfl (ov_loadN (cs := [.int .i64 x1.op, .int .i64 x1.kind, .int .i64 x1.n, .string x1.s, .string x1.f, v5]) rfl t_agg_32 t_size_32 (OB.cells ob28 0 rfl)) ?_
  obtain ⟨r29, hr30, HF⟩ := bind_some HF
  refine WL.call rfl rfl rfl (oc_func (vs := [.agg #[.int .i64 x1.op, .int .i64 x1.kind, .int .i64 x1.n, .string x1.s, .string x1.f, v5]]) rfl t_ent_16) ((IH _ (Nat.le_refl _)).1 hr30 S27.sub (rp_Ex.2 ⟨_, rfl, (rs6.mono ((s10.le).trans le26))⟩)) ?_
  rintro _ w32 ⟨h33, s34, rfl⟩
  have S35 := S27.trans0 s34
  refine WL.val rfl rfl rfl (ov_assign rfl) <| WL.nil <| WQ.seqN <| WC.ret <| WQ.ret1 rfl rfl ?_
  obtain rfl := Option.some.inj HF
  exact ⟨_, rfl, h33, S35, rfl⟩
 ·intro J36
  refine WC.seq <| WC.region <| WL.val rfl rfl rfl (ov_move rfl) <| WL.nil <| WQ.seqN <| WC.cond (b := x4) rfl (fun hb14 => ?_) (fun hb14 => ?_)
  ·replace HF := bif_t hb14 HF
   refine WC.seq <| WC.region <| WL.val rfl rfl rfl (ov_loadN (cs := [.int .i64 x1.op, .int .i64 x1.kind, .int .i64 x1.n, .string x1.s, .string x1.f, v5]) rfl t_agg_32 t_size_32 (OB.cells ob11 0 rfl)) ?_
   obtain ⟨r15, hr16, HF⟩ := bind_some HF
   refine WL.call rfl rfl rfl (oc_func (vs := [.agg #[.int .i64 x1.op, .int .i64 x1.kind, .int .i64 x1.n, .string x1.s, .string x1.f, v5]]) rfl t_ent_16) ((IH _ (Nat.le_refl _)).1 hr16 S13.sub (rp_Ex.2 ⟨_, rfl, (rs6.mono (s10.le))⟩)) ?_
   rintro _ w18 ⟨h19, s20, rfl⟩
   have S21 := S13.trans0 s20
   obtain ⟨hl22, HF⟩ := ite_none HF
   refine WL.val rfl rfl rfl (ov_addS rfl rfl hl22) ?_
   obtain ⟨hl23, HF⟩ := ite_none HF
   refine WL.val rfl rfl rfl (ov_addS rfl rfl hl23) <| WL.val rfl rfl rfl (ov_assign rfl) <| WL.nil <| WQ.seqN <| WC.ret <| WQ.thenRet <| WQ.ret1 rfl rfl ?_
   obtain rfl := Option.some.inj HF
   exact ⟨_, rfl, h19, S21, rfl⟩
  ·replace HF := bif_f hb14 HF
   refine WC.skip <| WC.to [2] [(2, .pointer (some ⟨b8, 0, none⟩))] rfl ?_
   exact J36 ⟨h0, HF, rfl, S13, Hle.refl _, ob11⟩
theorem all_ref03_Expr : ∀ k j, j ≤ k → C_ref03_Expr (tie_ref03_Expr j).ref03_Expr ∧ C_ref03_Exprs (tie_ref03_Expr j).ref03_Exprs ∧ C_ref03_operand (tie_ref03_Expr j).ref03_operand := by
  intro k
  induction k with
  | zero =>
    intro j hj
    obtain rfl : j = 0 := by omega
    exact ⟨(fun _ _ => by intro h; cases h), (fun _ _ => by intro h; cases h), (fun _ _ _ => by intro h; cases h)⟩
  | succ k ih =>
    intro j hj
    by_cases h : j ≤ k
    · exact ih j h
    · obtain rfl : j = k + 1 := by omega
      exact ⟨s_ref03_Expr k ih, s_ref03_Exprs k ih, s_ref03_operand k ih⟩
theorem ok_ref03_Expr (k : Nat) : C_ref03_Expr (F_ref03_Expr k) := (all_ref03_Expr k k (Nat.le_refl _)).1
theorem ok_ref03_Exprs (k : Nat) : C_ref03_Exprs (F_ref03_Exprs k) := (all_ref03_Expr k k (Nat.le_refl _)).2.1
theorem ok_ref03_operand (k : Nat) : C_ref03_operand (F_ref03_operand k) := (all_ref03_Expr k k (Nat.le_refl _)).2.2

def C_law03_PrintExprs (φ : Ex → Option Bool) : Prop := ∀ ⦃x1 : Ex⦄ ⦃r : Bool⦄, φ x1 = some r → ∀ ⦃w0 : World⦄ ⦃h0 : Hp⦄ ⦃cs2 : List Value⦄, Sub h0 w0 → Rp.R h0 x1 cs2 →
  Calls Tryz.prog 4 #[.agg cs2.toArray] w0 fun e w1 => ∃ v, e = .returned v ∧ ∃ h1, Stp [] w0 h0 w1 h1 ∧ v = .bool r
set_option maxRecDepth 20000 in
set_option maxHeartbeats 4000000 in
theorem s_law03_PrintExprs (k : Nat) : C_law03_PrintExprs (F_law03_PrintExprs k) := by
 intro x1 r HF w0 h0 cs2 hs0 r3
 have S0 : Stp [] w0 h0 w0 h0 := Stp.refl hs0 _
 refine enter (n := 38) Tryz.func4 rfl Tryz.ntmps4 rfl [(0, .agg cs2.toArray)] rfl <| WC.seq <| WC.region ?_
 obtain ⟨v4, rfl, rs5⟩ := rp_Ex.1 r3
 refine WL.box (cs := [.int .i64 x1.op, .int .i64 x1.kind, .int .i64 x1.n, .string x1.s, .string x1.f, v4]) rfl rfl rfl rfl S0.sub (fun w6 b7 hb8 s9 ob10 => ?_)
 have g11 : w0.heap.size ≤ b7 := by rw [hb8]; exact S0.size
 have S12 := S0.trans0 s9
 refine WL.val rfl rfl rfl (ov_assign rfl) <| WL.nil <| WQ.seqN <| WC.join (fun E w41 => ∃ (h40 : Hp), law03_PrintExprs_j1 k x1 = some r ∧ E = [(1, .pointer (some ⟨b7, 0, none⟩))] ∧ Stp [] w0 h0 w41 h40 ∧ Hle h0 h40 ∧ OB w41 h40 b7 32 [.int .i64 x1.op, .int .i64 x1.kind, .int .i64 x1.n, .string x1.s, .string x1.f, v4]) ?_ ?_
 ·rintro E w41 ⟨h40, HF, rfl, S43, le42, ob44⟩
  refine WC.seq <| WC.region <| WL.val rfl rfl rfl (ov_loadN (cs := [.int .i64 x1.op, .int .i64 x1.kind, .int .i64 x1.n, .string x1.s, .string x1.f, v4]) rfl t_agg_32 t_size_32 (OB.cells ob44 0 rfl)) ?_
  obtain ⟨r45, hr46, HF⟩ := bind_some HF
  refine WL.call rfl rfl rfl (oc_func (vs := [.agg #[.int .i64 x1.op, .int .i64 x1.kind, .int .i64 x1.n, .string x1.s, .string x1.f, v4]]) rfl t_ent_14) (ok_print_Expr _ hr46 S43.sub (rp_Ex.2 ⟨_, rfl, (rs5.mono ((s9.le).trans le42))⟩)) ?_
  rintro _ w48 ⟨h49, s50, _, _, rfl, rfl, rfl⟩
  have S51 := S43.trans0 s50
  refine WL.val rfl rfl rfl (ov_move rfl) <| WL.val rfl rfl rfl (ov_extract rfl rfl) <| WL.val rfl rfl rfl (ov_extract rfl rfl) <| WL.val rfl rfl rfl (ov_assign rfl) <| WL.val rfl rfl rfl (ov_assign rfl) <| WL.nil <| WQ.seqN <| WC.join (fun E w71 => ∃ (h70 : Hp), law03_PrintExprs_j2 k x1 r45 = some r ∧ E = [(1, .pointer (some ⟨b7, 0, none⟩)), (3, .string r45.1), (4, .int .i64 r45.2)] ∧ Stp [] w0 h0 w71 h70 ∧ Hle h49 h70 ∧ OB w71 h70 b7 32 [.int .i64 x1.op, .int .i64 x1.kind, .int .i64 x1.n, .string x1.s, .string x1.f, v4]) ?_ ?_
  ·rintro E w71 ⟨h70, HF, rfl, S73, le72, ob74⟩
   refine WC.seq <| WC.region <| WL.val rfl rfl rfl (ov_move rfl) <| WL.val rfl rfl rfl (ov_loadN (cs := [.int .i64 x1.op, .int .i64 x1.kind, .int .i64 x1.n, .string x1.s, .string x1.f, v4]) rfl t_agg_32 t_size_32 (OB.cells ob74 0 rfl)) ?_
   obtain ⟨r75, hr76, HF⟩ := bind_some HF
   refine WL.call rfl rfl rfl (oc_func (vs := [.agg #[.int .i64 x1.op, .int .i64 x1.kind, .int .i64 x1.n, .string x1.s, .string x1.f, v4]]) rfl t_ent_16) (ok_ref03_Expr _ hr76 S73.sub (rp_Ex.2 ⟨_, rfl, (rs5.mono ((s9.le).trans ((le42).trans ((s50.le).trans le72))))⟩)) ?_
   rintro _ w78 ⟨h79, s80, rfl⟩
   have S81 := S73.trans0 s80
   refine WL.val rfl rfl rfl (ov_eqlS rfl rfl) <| WL.val rfl rfl rfl (ov_move rfl) <| WL.split 31 (b := bEq r45.1 r75) rfl (fun hb82 => ?_) (fun hb82 => ?_)
   ·replace HF := bif_t hb82 HF
    refine WL.val rfl rfl rfl (ov_move rfl) <| WL.val rfl rfl rfl (ov_eql rfl rfl) <| WL.val rfl rfl rfl (ov_pickT rfl rfl) <| WL.val rfl rfl rfl (ov_move rfl) <| WL.split 35 (b := (r45.2 : Int) == 0) rfl (fun hb83 => ?_) (fun hb83 => ?_)
    ·replace HF := bif_t hb83 HF
     obtain ⟨r84, hr85, HF⟩ := bind_some HF
     refine WL.call rfl rfl rfl (oc_func (vs := []) rfl t_ent_7) (ok_law03_awake _ hr85 S81.sub) ?_
     rintro _ w87 ⟨h88, s89, rfl⟩
     have S90 := S81.trans0 s89
     refine WL.val rfl rfl rfl (ov_pickT rfl rfl) <| WL.val rfl rfl rfl (ov_assign rfl) <| WL.nil <| WQ.seqN <| WC.ret <| WQ.ret1 rfl rfl ?_
     obtain rfl := Option.some.inj HF
     exact ⟨_, rfl, h88, S90, rfl⟩
    ·replace HF := bif_f hb83 HF
     refine WL.pass rfl rfl rfl <| WL.val rfl rfl rfl (ov_pickF rfl rfl) <| WL.val rfl rfl rfl (ov_assign rfl) <| WL.nil <| WQ.seqN <| WC.ret <| WQ.ret1 rfl rfl ?_
     obtain rfl := Option.some.inj HF
     exact ⟨_, rfl, h79, S81, rfl⟩
   ·replace HF := bif_f hb82 HF
    refine WL.pass rfl rfl rfl <| WL.pass rfl rfl rfl <| WL.val rfl rfl rfl (ov_pickF rfl rfl) <| WL.val rfl rfl rfl (ov_move rfl) <| WL.pass rfl rfl rfl <| WL.val rfl rfl rfl (ov_pickF rfl rfl) <| WL.val rfl rfl rfl (ov_assign rfl) <| WL.nil <| WQ.seqN <| WC.ret <| WQ.ret1 rfl rfl ?_
    obtain rfl := Option.some.inj HF
    exact ⟨_, rfl, h79, S81, rfl⟩
  ·intro J91
   refine WC.seq <| WC.region ?_
   have ob52 := (ob44.step0 s50)
   refine WL.val rfl rfl rfl (ov_loadN (cs := [.int .i64 x1.op, .int .i64 x1.kind, .int .i64 x1.n, .string x1.s, .string x1.f, v4]) rfl t_agg_32 t_size_32 (OB.cells ob52 0 rfl)) ?_
   obtain ⟨r53, hr54, HF⟩ := bind_some HF
   refine WL.call rfl rfl rfl (oc_func (vs := [.agg #[.int .i64 x1.op, .int .i64 x1.kind, .int .i64 x1.n, .string x1.s, .string x1.f, v4]]) rfl t_ent_15) (ok_ref02_WellExpr _ hr54 S51.sub (rp_Ex.2 ⟨_, rfl, (rs5.mono ((s9.le).trans ((le42).trans s50.le)))⟩)) ?_
   rintro _ w56 ⟨h57, s58, rfl⟩
   have S59 := S51.trans0 s58
   refine WL.val rfl rfl rfl (ov_not rfl) <| WL.nil <| WQ.seqN <| WC.cond (b := !r53) rfl (fun hb60 => ?_) (fun hb60 => ?_)
   ·replace HF := bif_t hb60 HF
    refine WC.seq <| WC.region <| WL.val rfl rfl rfl (ov_move rfl) <| WL.val rfl rfl rfl (ov_eqlS rfl rfl) <| WL.val rfl rfl rfl (ov_move rfl) <| WL.split 20 (b := bEq r45.1 (⟨#[]⟩ : ByteArray)) rfl (fun hb61 => ?_) (fun hb61 => ?_)
    ·replace HF := bif_t hb61 HF
     refine WL.val rfl rfl rfl (ov_move rfl) <| WL.val rfl rfl rfl (ov_eql rfl rfl) <| WL.val rfl rfl rfl (ov_pickT rfl rfl) <| WL.val rfl rfl rfl (ov_move rfl) <| WL.split 24 (b := (r45.2 : Int) == 2) rfl (fun hb62 => ?_) (fun hb62 => ?_)
     ·replace HF := bif_t hb62 HF
      obtain ⟨r63, hr64, HF⟩ := bind_some HF
      refine WL.call rfl rfl rfl (oc_func (vs := []) rfl t_ent_7) (ok_law03_awake _ hr64 S59.sub) ?_
      rintro _ w66 ⟨h67, s68, rfl⟩
      have S69 := S59.trans0 s68
      refine WL.val rfl rfl rfl (ov_pickT rfl rfl) <| WL.val rfl rfl rfl (ov_assign rfl) <| WL.nil <| WQ.seqN <| WC.ret <| WQ.thenRet <| WQ.ret1 rfl rfl ?_
      obtain rfl := Option.some.inj HF
      exact ⟨_, rfl, h67, S69, rfl⟩
     ·replace HF := bif_f hb62 HF
      refine WL.pass rfl rfl rfl <| WL.val rfl rfl rfl (ov_pickF rfl rfl) <| WL.val rfl rfl rfl (ov_assign rfl) <| WL.nil <| WQ.seqN <| WC.ret <| WQ.thenRet <| WQ.ret1 rfl rfl ?_
      obtain rfl := Option.some.inj HF
      exact ⟨_, rfl, h57, S59, rfl⟩
    ·replace HF := bif_f hb61 HF
     refine WL.pass rfl rfl rfl <| WL.pass rfl rfl rfl <| WL.val rfl rfl rfl (ov_pickF rfl rfl) <| WL.val rfl rfl rfl (ov_move rfl) <| WL.pass rfl rfl rfl <| WL.val rfl rfl rfl (ov_pickF rfl rfl) <| WL.val rfl rfl rfl (ov_assign rfl) <| WL.nil <| WQ.seqN <| WC.ret <| WQ.thenRet <| WQ.ret1 rfl rfl ?_
     obtain rfl := Option.some.inj HF
     exact ⟨_, rfl, h57, S59, rfl⟩
   ·replace HF := bif_f hb60 HF
    refine WC.skip ?_
    have ob92 := (ob52.step0 s58)
    refine WC.to [1, 3, 4] [(1, .pointer (some ⟨b7, 0, none⟩)), (3, .string r45.1), (4, .int .i64 r45.2)] rfl ?_
    exact J91 ⟨h57, HF, rfl, S59, s58.le, ob92⟩
 ·intro J93
  refine WC.seq <| WC.region <| WL.val rfl rfl rfl (ov_loadN (cs := [.int .i64 x1.op, .int .i64 x1.kind, .int .i64 x1.n, .string x1.s, .string x1.f, v4]) rfl t_agg_32 t_size_32 (OB.cells ob10 0 rfl)) <| WL.buildSliceD (us := [.agg #[.int .i64 x1.op, .int .i64 x1.kind, .int .i64 x1.n, .string x1.s, .string x1.f, v4]]) (cs := [.int .i64 x1.op, .int .i64 x1.kind, .int .i64 x1.n, .string x1.s, .string x1.f, v4]) rfl rfl rfl t_slice_30 t_size_32 t_zero_32 rfl (cl_cons rfl cl_nil) rfl rfl rfl S12.sub (fun w13 h14 b15 hb16 s17 hk18 hc19 => ?_)
  have S20 := S12.trans0 s17
  have rs21 : RS h14 (.slice (some ⟨b15, 0, none⟩) 1 1) ([(Ex.mk x1.op x1.kind x1.n x1.s x1.f x1.args)] : List Ex) := RS.litL _ [[.int .i64 x1.op, .int .i64 x1.kind, .int .i64 x1.n, .string x1.s, .string x1.f, v4]] rfl rfl hc19 ⟨(rp_Ex.2 ⟨_, rfl, (rs5.mono ((s9.le).trans s17.le))⟩), trivial⟩
  have ow22 := Own.lit (base := w0.heap.size) (sz := 6) (m := 1) hk18 hc19 (by rw [hb16]; exact S12.size) rfl (by decide)
  obtain ⟨r23, hr24, HF⟩ := bind_some HF
  refine WL.call rfl rfl rfl (oc_func (vs := [.slice (some ⟨b15, 0, none⟩) 1 1, .int .i64 0]) rfl t_ent_13) (ok_law03_exprs _ hr24 S20.sub rs21) ?_
  have ob29 := (ob10.step0 s17)
  rintro _ w26 ⟨h27, s28, rfl⟩
  have S30 := S20.trans0 s28
  refine WL.val rfl rfl rfl (ov_gtr rfl rfl) <| WL.nil <| WQ.seqN <| WC.cond (b := decide ((2000 : Int) < r23)) rfl (fun hb31 => ?_) (fun hb31 => ?_)
  ·replace HF := bif_t hb31 HF
   refine WC.seq <| WC.region ?_
   obtain ⟨r32, hr33, HF⟩ := bind_some HF
   refine WL.call rfl rfl rfl (oc_func (vs := []) rfl t_ent_7) (ok_law03_awake _ hr33 S30.sub) ?_
   have ob38 := (ob29.step0 s28)
   rintro _ w35 ⟨h36, s37, rfl⟩
   have S39 := S30.trans0 s37
   refine WL.val rfl rfl rfl (ov_assign rfl) <| WL.nil <| WQ.seqN <| WC.ret <| WQ.thenRet <| WQ.ret1 rfl rfl ?_
   obtain rfl := Option.some.inj HF
   exact ⟨_, rfl, h36, S39, rfl⟩
  ·replace HF := bif_f hb31 HF
   refine WC.skip ?_
   have ob94 := (ob29.step0 s28)
   refine WC.to [1] [(1, .pointer (some ⟨b7, 0, none⟩))] rfl ?_
   exact J93 ⟨h27, HF, rfl, S30, (s17.le).trans s28.le, ob94⟩
theorem ok_law03_PrintExprs (k : Nat) : C_law03_PrintExprs (F_law03_PrintExprs k) := s_law03_PrintExprs k
end Go.Proofs.YtaknpdhmhifpeaaGreatDoor
