import Derived.Test.YtaknpdhmhifpeaaGreatDoorK1
import Derived.Test.YtaknpdhmhifpeaaGreatDoorL3g
import Derived.Test.YtaknpdhmhifpeaaGreatDoorJ0
import Derived.LaidMore
set_option linter.unusedVariables false
set_option linter.unusedSimpArgs false
namespace Go.Proofs.YtaknpdhmhifpeaaGreatDoor
open Go Go.ChangeShapes Go.WideShapes Go.ChangeAt Go.RowKit

/-! ### 43. PrintExprs: the card -/
theorem glob_exprs {W : World} (hL : laidMetH Tryz.prog Rows.printExprsRow.laid W) (hS : W.ShapedOpen Tryz.prog) : Glob (hp0 W) := by
  have h : laidMet Tryz.prog Rows.printExprsRow.laid W := hL
  exact ⟨trivial, fact_ops h (by simp [Rows.printExprsRow]), fact_signs h (by simp [Rows.printExprsRow]), fact_shapes h (by simp [Rows.printExprsRow]), fact_pow10 h (by
    have e : (Rows.laid_internal_strconv_uint64pow10 : DataW Unit) = Lib.tabData .u64 Lib.pow10Tab := by kernel_rfl
    rw [← e]; simp [Rows.printExprsRow]), fact_maxLen hS⟩
theorem lay_ok : laidOutB Tryz.prog = true := jf_laid
theorem rec_E : Tryz.prog.readableRec 32 = true := by kernel_rfl
theorem row_E : 32 < Tryz.prog.types.size := of_decide_eq_true (by kernel_rfl)
set_option maxRecDepth 100000 in
theorem contract_exprs (H : Type) (enc : TypeId × Value → H) (W : World) (base : Nat) (args : Array Value) (ds gs : List (DataW H)) (before : List MemPlace)
    (hval : ∀ (j : Nat) t v, Tryz.f4.params[j]? = some t → args[j]? = some v → Value.okWide Tryz.prog W .any base t v)
    (hW : DataW.Whole enc Tryz.prog Tryz.f4.params.toList Rows.printExprsSpec.vars false W args.toList ds gs before) (hL : laidMetH Tryz.prog Rows.printExprsRow.laid W) (hS : W.ShapedOpen Tryz.prog) :
    Calls Tryz.prog 4 args W fun e W' => ∃ v, e = .returned v ∧ Rows.printExprsSpec.post enc Tryz.prog Tryz.f4 false true false false W args v W' := by
  have hW' := hW
  obtain ⟨p, q, hA0, hV, rfl, hfz, hnd⟩ := hW
  have hA : DataW.TrodAll enc Tryz.prog W 0 (fun _ => true) true Tryz.f4.params.toList args.toList ds p := hA0
  rw [Tryz.params4] at hA hval
  obtain ⟨v0, vs0, d0, ds0, p0, q0, hargs, rfl, rfl, h0, r0⟩ := trodAll_cons hA
  obtain ⟨rfl, rfl, rfl⟩ := trodAll_nil r0
  obtain rfl : args = #[v0] := by cases args; simp_all
  obtain ⟨rfl, rfl⟩ := trodVars_none hV
  obtain ⟨cs, rfl, -⟩ := okWide_struct Tryz.underlying32 (hval 0 32 v0 rfl rfl)
  obtain ⟨fuel, hf⟩ := h0
  obtain ⟨z, hz, hfit⟩ := read_expr fuel hf
  clear hA0
  have hlt := hW'.lt
  simp only [List.append_nil] at hW' hlt
  obtain ⟨k, hk⟩ := law_exprs z hfit
  have hz' : Rp.R (hp0 W) z cs.toList := hz
  refine (ok_law03_PrintExprs k hk (sub0 (glob_exprs hL hS)) hz').mono ?_
  rintro e W' ⟨v, rfl, h', S, rfl⟩
  refine ⟨_, rfl, post_still (pa := p0 ++ []) (pv := []) hW' (fun _ _ _ => trodAll_cons_mk (shut_bool Tryz.underlying4 _) trodAll_mk0) (fun sp hsp => trodAll_cons_mk (Below.spare lay_ok rec_E row_E ⟨fuel, hf⟩ (Stp.belowW S) (fun x hx => by simpa using hlt x hx) sp (fun x hx => hsp x hx)) trodAll_mk0) (fun _ _ => rfl) (by simp) (S.kept _)⟩

/-! a world for the witness: the door's own, the pinned table laid -/
def litCells : DataW Unit → Array Value
  | .agg ds => (ds.map fun d => match d with | .lit (.int k n) => Value.int k n | _ => undef).toArray
  | _ => #[]
noncomputable def laidW (os : Os) : World :=
  { World.doorLaid Tryz.prog 400 os with heap := (World.doorLaid Tryz.prog 400 os).heap.modify 5 fun
      | .cells _ t fr => .cells (litCells Rows.laid_unicode_utf8_first) t fr
      | o => o }
theorem laid_met (os : Os) : laidMet Tryz.prog Rows.printExprsRow.laid ((laidW os).forCall (fun _ _ => 0) ⟨#[], #[.agg #[.int .i64 0, .int .i64 0, .int .i64 0, .string ⟨#[]⟩, .string ⟨#[]⟩, .slice none 0 0]], []⟩).memory :=
  laidMet_of_run' 8 (by kernel_rfl) (by kernel_rfl)
theorem reads (os : Os) {H : Type} (enc : TypeId × Value → H) : ∃ places, DataW.whole enc Tryz.prog ((laidW os).forCall (fun _ _ => 0) ⟨#[], #[.agg #[.int .i64 0, .int .i64 0, .int .i64 0, .string ⟨#[]⟩, .string ⟨#[]⟩, .slice none 0 0]], []⟩).memory Tryz.f4.params.toList Rows.printExprsSpec.vars false #[Value.agg #[.int .i64 0, .int .i64 0, .int .i64 0, .string ⟨#[]⟩, .string ⟨#[]⟩, .slice none 0 0]].toList 8 = some ([.agg [.lit (.int .i64 0), .lit (.int .i64 0), .lit (.int .i64 0), .lit (.string []), .lit (.string []), .nil]], [], places) :=
  ⟨[], by kernel_rfl⟩
theorem lw_os (os : Os) : (laidW os).os = os := rfl
theorem lw_vars (os : Os) : ((laidW os).forCall (fun _ _ => 0) ⟨#[], #[.agg #[.int .i64 0, .int .i64 0, .int .i64 0, .string ⟨#[]⟩, .string ⟨#[]⟩, .slice none 0 0]], []⟩).variablesRefB Tryz.prog = true := by kernel_rfl
theorem lw_rest (os : Os) : (((laidW os).forCall (fun _ _ => 0) ⟨#[], #[.agg #[.int .i64 0, .int .i64 0, .int .i64 0, .string ⟨#[]⟩, .string ⟨#[]⟩, .slice none 0 0]], []⟩).heap.toList.drop Tryz.prog.globals.size).take ((begin Tryz.prog (fun _ _ => 0) default).world.heap.size - Tryz.prog.globals.size) =
      (begin Tryz.prog (fun _ _ => 0) default).world.heap.toList.drop Tryz.prog.globals.size := by kernel_rfl
theorem lw_ok (os : Os) : Input.okWideB Tryz.prog ((laidW os).forCall (fun _ _ => 0) ⟨#[], #[.agg #[.int .i64 0, .int .i64 0, .int .i64 0, .string ⟨#[]⟩, .string ⟨#[]⟩, .slice none 0 0]], []⟩) 4 ⟨#[], #[.agg #[.int .i64 0, .int .i64 0, .int .i64 0, .string ⟨#[]⟩, .string ⟨#[]⟩, .slice none 0 0]], []⟩ = true := by kernel_rfl
theorem lw_init : Tryz.prog.inits.idxOf? 4 = none := by kernel_rfl
set_option maxRecDepth 100000 in
theorem lifted_exprs (os : Os) (started : os.Started) (H : Type) (enc : TypeId × Value → H) (F : Stop.Interp) :
    ReturnsInHanded {} Tryz.checked os 4 .any ((OpenSpec.ofChange Rows.printExprsSpec).preRow enc Tryz.prog Tryz.f4 Rows.printExprsRow.domain false Rows.printExprsRow.laid) (((OpenSpec.ofChange Rows.printExprsSpec).at F).post enc Tryz.prog Tryz.f4 false true false false) := by
  obtain ⟨places, hx⟩ := reads os enc
  refine returnsInHanded_of_row (C := Tryz.checked) (s := OpenSpec.ofChange Rows.printExprsSpec) ownK started lw_init Tryz.func4
    (witness_row_atRef (enc := enc) (C := Tryz.checked) false (laidW os) #[.agg #[.int .i64 0, .int .i64 0, .int .i64 0, .string ⟨#[]⟩, .string ⟨#[]⟩, .slice none 0 0]] (lw_os os) (lw_vars os) (lw_rest os) (lw_ok os)
      (OpenSpec.preRow_of_cond 8 hx (by kernel_rfl) (fun k hk => by cases hk) (by kernel_rfl) (laid_met os))) ?_
  intro W base args ds gs before hval hW _ _ _ hL hS _
  exact contract_exprs H enc W base args ds gs before hval hW hL hS
end Go.Proofs.YtaknpdhmhifpeaaGreatDoor
