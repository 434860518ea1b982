import Derived.Test.YtkodnhngllfemaaGreatDoorK1s
import Derived.Test.YtkodnhngllfemaaGreatDoorM6
import Derived.Test.YtkodnhngllfemaaGreatDoorK2
import Derived.Test.YtkodnhngllfemaaGreatDoorK2a
import Derived.Test.YtkodnhngllfemaaGreatDoorJ0
import Derived.LaidMore
set_option linter.unusedVariables false
set_option linter.unusedSimpArgs false
namespace Go.Proofs.YtkodnhngllfemaaGreatDoor
open Go Go.ChangeShapes Go.WideShapes Go.ChangeAt Go.RowKit
theorem glob_law {W : World} (hL : laidMetH Tryz.prog Rows.syntaxSameRow.laid W) : Glob (hp0 W) := by
  have h : laidMet Tryz.prog Rows.syntaxSameRow.laid W := hL
  exact ⟨trivial, fact_shapes h (by simp [Rows.syntaxSameRow]), fact_err h (n := "strconv.ErrSyntax") (nm := "*errors.errorString") (t := 133) (d := .ptr (.agg [.lit (.string [105, 110, 118, 97, 108, 105, 100, 32, 115, 121, 110, 116, 97, 120])])) (by simp [Rows.syntaxSameRow, Rows.laid_strconv_ErrSyntax]) (by kernel_rfl) (by kernel_rfl) (by kernel_rfl), fact_err h (n := "strconv.ErrRange") (nm := "*errors.errorString") (t := 133) (d := .ptr (.agg [.lit (.string [118, 97, 108, 117, 101, 32, 111, 117, 116, 32, 111, 102, 32, 114, 97, 110, 103, 101])])) (by simp [Rows.syntaxSameRow, Rows.laid_strconv_ErrRange]) (by kernel_rfl) (by kernel_rfl) (by kernel_rfl), fact_pow10 h (by
    have e : (Rows.laid_internal_strconv_uint64pow10 : DataW Unit) = Lib.tabData .u64 Lib.pow10Tab := by kernel_rfl
    rw [← e]; simp [Rows.syntaxSameRow])⟩
theorem lay_ok : laidOutB Tryz.prog = true := jf_laid
theorem rec_A : Tryz.prog.readableRec 60 = true := by kernel_rfl
theorem row_A : 60 < Tryz.prog.types.size := of_decide_eq_true (by kernel_rfl)
theorem rec_L : Tryz.prog.readableRec 22 = true := by kernel_rfl
theorem row_L : 22 < Tryz.prog.types.size := of_decide_eq_true (by kernel_rfl)
set_option maxRecDepth 100000 in
theorem contract_law (H : Type) (enc : TypeId × Value → H) (W : World) (base : Nat) (args : Array Value) (ds gs : List (DataW H)) (before : List MemPlace)
    (hval : ∀ (j : Nat) t v, Tryz.f10.params[j]? = some t → args[j]? = some v → Value.okWide Tryz.prog W .any base t v)
    (hW : DataW.Whole enc Tryz.prog Tryz.f10.params.toList Rows.syntaxSameSpec.vars false W args.toList ds gs before) (hL : laidMetH Tryz.prog Rows.syntaxSameRow.laid W) :
    Calls Tryz.prog 10 args W fun e W' => ∃ v, e = .returned v ∧ Rows.syntaxSameSpec.post enc Tryz.prog Tryz.f10 false true false false W args v W' := by
  have hW' := hW
  obtain ⟨p, q, hA0, hV, rfl, hfz, hnd⟩ := hW
  have hA : DataW.TrodAll enc Tryz.prog W 0 (fun _ => true) true Tryz.f10.params.toList args.toList ds p := hA0
  rw [Tryz.params10] at hA hval
  obtain ⟨v0, vs0, d0, ds0, p0, q0, hargs0, rfl, rfl, h0, r0⟩ := trodAll_cons hA
  obtain ⟨v1, vs1, d1, ds1, p1, q1, hargs1, rfl, rfl, h1, r1⟩ := trodAll_cons r0
  obtain ⟨v2, vs2, d2, ds2, p2, q2, hargs2, rfl, rfl, h2, r2⟩ := trodAll_cons r1
  obtain ⟨rfl, rfl, rfl⟩ := trodAll_nil r2
  obtain rfl : args = #[v0, v1, v2] := by cases args; simp_all
  obtain ⟨rfl, rfl⟩ := trodVars_none hV
  obtain ⟨fuel0, hf0⟩ := h0
  obtain ⟨a0, ln0, cp0, rfl⟩ := okWide_slice Tryz.underlying22 (hval 0 22 v0 rfl rfl)
  obtain ⟨v0, z0, hv0, hz0, hzl0, hfit0⟩ := read_text hf0
  obtain rfl : Value.slice a0 ln0 cp0 = v0 := by simpa [Value.cells] using hv0
  obtain ⟨fuel1, hf1⟩ := h1
  obtain ⟨a1, ln1, cp1, rfl⟩ := okWide_slice Tryz.underlying22 (hval 1 22 v1 rfl rfl)
  obtain ⟨v1, z1, hv1, hz1, hzl1, hfit1⟩ := read_text hf1
  obtain rfl : Value.slice a1 ln1 cp1 = v1 := by simpa [Value.cells] using hv1
  obtain ⟨fuel2, hf2⟩ := h2
  obtain ⟨cs2, rfl, hsz2⟩ := okWide_array Tryz.underlying60 (hval 2 60 v2 rfl rfl)
  obtain ⟨z2, y2, c2, d2, hcs2, hz2, hy2, hfit2, hfiu2⟩ := read_pair hf2
  obtain rfl : cs2 = (c2 ++ d2).toArray := by rw [← show cs2.toList = c2 ++ d2 from hcs2]
  clear hA0
  have hlt := hW'.lt
  simp only [List.append_nil] at hW' hlt
  obtain ⟨k, hk⟩ := law_same z0 z1 z2 y2 hzl0 hfit0 hzl1 hfit1 hfit2 hfiu2
  refine (ok_law02_SyntaxSame k hk (sub0 (glob_law hL)) hz0 hz1 hz2 hy2).mono ?_
  rintro e W' ⟨v, rfl, h', S, rfl⟩
  refine ⟨_, rfl, post_still (pa := (p0 ++ (p1 ++ (p2 ++ [])))) (pv := []) hW' (fun _ _ _ => trodAll_cons_mk (shut_bool Tryz.underlying4 _) trodAll_mk0) (fun sp hsp => trodAll_cons_mk (Below.spare lay_ok rec_L row_L ⟨fuel0, hf0⟩ (Stp.belowW S) (fun x hx => hlt x (by simp [hx])) sp (fun x hx => hsp x (by simp [hx]))) (trodAll_cons_mk (Below.spare lay_ok rec_L row_L ⟨fuel1, hf1⟩ (Stp.belowW S) (fun x hx => hlt x (by simp [hx])) sp (fun x hx => hsp x (by simp [hx]))) (trodAll_cons_mk (Below.spare lay_ok rec_A row_A ⟨fuel2, hf2⟩ (Stp.belowW S) (fun x hx => hlt x (by simp [hx])) sp (fun x hx => hsp x (by simp [hx]))) (trodAll_mk0)))) (fun _ _ => rfl) (by simp) (S.kept _)⟩
noncomputable def laidW (os : Os) : World := World.doorLaid Tryz.prog 400 os
theorem laid_met (os : Os) : laidMet Tryz.prog Rows.syntaxSameRow.laid ((laidW os).forCall (fun _ _ => 0) ⟨#[], #[.slice none 0 0, .slice none 0 0, .agg #[.int .i64 0, .int .i64 0, .int .i64 0, .string ⟨#[]⟩, .string ⟨#[]⟩, .slice none 0 0, .int .i64 0, .int .i64 0, .int .i64 0, .string ⟨#[]⟩, .string ⟨#[]⟩, .slice none 0 0]], []⟩).memory :=
  laidMet_of_run' 8 (by kernel_rfl) (by kernel_rfl)
theorem reads (os : Os) {H : Type} (enc : TypeId × Value → H) : ∃ places, DataW.whole enc Tryz.prog ((laidW os).forCall (fun _ _ => 0) ⟨#[], #[.slice none 0 0, .slice none 0 0, .agg #[.int .i64 0, .int .i64 0, .int .i64 0, .string ⟨#[]⟩, .string ⟨#[]⟩, .slice none 0 0, .int .i64 0, .int .i64 0, .int .i64 0, .string ⟨#[]⟩, .string ⟨#[]⟩, .slice none 0 0]], []⟩).memory Tryz.f10.params.toList Rows.syntaxSameSpec.vars false (#[.slice none 0 0, .slice none 0 0, .agg #[.int .i64 0, .int .i64 0, .int .i64 0, .string ⟨#[]⟩, .string ⟨#[]⟩, .slice none 0 0, .int .i64 0, .int .i64 0, .int .i64 0, .string ⟨#[]⟩, .string ⟨#[]⟩, .slice none 0 0]] : Array Value).toList 8 = some ([.nil, .nil, .agg [.agg [.lit (.int .i64 0), .lit (.int .i64 0), .lit (.int .i64 0), .lit (.string []), .lit (.string []), .nil], .agg [.lit (.int .i64 0), .lit (.int .i64 0), .lit (.int .i64 0), .lit (.string []), .lit (.string []), .nil]]], [], places) :=
  ⟨[], by kernel_rfl⟩
theorem lw_os (os : Os) : (laidW os).os = os := rfl
theorem lw_vars (os : Os) : ((laidW os).forCall (fun _ _ => 0) ⟨#[], #[.slice none 0 0, .slice none 0 0, .agg #[.int .i64 0, .int .i64 0, .int .i64 0, .string ⟨#[]⟩, .string ⟨#[]⟩, .slice none 0 0, .int .i64 0, .int .i64 0, .int .i64 0, .string ⟨#[]⟩, .string ⟨#[]⟩, .slice none 0 0]], []⟩).variablesRefB Tryz.prog = true := by kernel_rfl
theorem lw_rest (os : Os) : (((laidW os).forCall (fun _ _ => 0) ⟨#[], #[.slice none 0 0, .slice none 0 0, .agg #[.int .i64 0, .int .i64 0, .int .i64 0, .string ⟨#[]⟩, .string ⟨#[]⟩, .slice none 0 0, .int .i64 0, .int .i64 0, .int .i64 0, .string ⟨#[]⟩, .string ⟨#[]⟩, .slice none 0 0]], []⟩).heap.toList.drop Tryz.prog.globals.size).take ((begin Tryz.prog (fun _ _ => 0) default).world.heap.size - Tryz.prog.globals.size) =
      (begin Tryz.prog (fun _ _ => 0) default).world.heap.toList.drop Tryz.prog.globals.size := by kernel_rfl
theorem lw_ok (os : Os) : Input.okWideB Tryz.prog ((laidW os).forCall (fun _ _ => 0) ⟨#[], #[.slice none 0 0, .slice none 0 0, .agg #[.int .i64 0, .int .i64 0, .int .i64 0, .string ⟨#[]⟩, .string ⟨#[]⟩, .slice none 0 0, .int .i64 0, .int .i64 0, .int .i64 0, .string ⟨#[]⟩, .string ⟨#[]⟩, .slice none 0 0]], []⟩) 10 ⟨#[], #[.slice none 0 0, .slice none 0 0, .agg #[.int .i64 0, .int .i64 0, .int .i64 0, .string ⟨#[]⟩, .string ⟨#[]⟩, .slice none 0 0, .int .i64 0, .int .i64 0, .int .i64 0, .string ⟨#[]⟩, .string ⟨#[]⟩, .slice none 0 0]], []⟩ = true := by kernel_rfl
theorem lw_init : Tryz.prog.inits.idxOf? 10 = none := by kernel_rfl
set_option maxRecDepth 100000 in
theorem lifted_law (os : Os) (started : os.Started) (H : Type) (enc : TypeId × Value → H) (F : Stop.Interp) :
    ReturnsInHanded {} Tryz.checked os 10 .any ((OpenSpec.ofChange Rows.syntaxSameSpec).preRow enc Tryz.prog Tryz.f10 Rows.syntaxSameRow.domain false Rows.syntaxSameRow.laid) (((OpenSpec.ofChange Rows.syntaxSameSpec).at F).post enc Tryz.prog Tryz.f10 false true false false) := by
  obtain ⟨places, hx⟩ := reads os enc
  refine returnsInHanded_of_row (C := Tryz.checked) (s := (OpenSpec.ofChange Rows.syntaxSameSpec)) ownK started lw_init Tryz.func10
    (witness_row_atRef (enc := enc) (C := Tryz.checked) false (laidW os) #[.slice none 0 0, .slice none 0 0, .agg #[.int .i64 0, .int .i64 0, .int .i64 0, .string ⟨#[]⟩, .string ⟨#[]⟩, .slice none 0 0, .int .i64 0, .int .i64 0, .int .i64 0, .string ⟨#[]⟩, .string ⟨#[]⟩, .slice none 0 0]] (lw_os os) (lw_vars os) (lw_rest os) (lw_ok os)
      (OpenSpec.preRow_of_cond 8 hx (by kernel_rfl) (fun k hk => by cases hk) (by kernel_rfl) (laid_met os))) ?_
  intro W base args ds gs before hval hW _ _ _ hL hS _
  exact contract_law H enc W base args ds gs before hval hW hL
end Go.Proofs.YtkodnhngllfemaaGreatDoor
