import Derived.Test.YtaknpdhmhifpeaaGreatDoorK4
import Derived.Test.YtaknpdhmhifpeaaGreatDoorJ0
import Derived.LaidMore
set_option linter.unusedVariables false
set_option linter.unusedSimpArgs false
namespace Go.Proofs.YtaknpdhmhifpeaaGreatDoor
open Go Go.ChangeShapes Go.WideShapes Go.ChangeAt Go.RowKit

/-! ### 45. PrintTexts: the card -/
theorem glob_texts {W : World} (hL : laidMetH Tryz.prog Rows.printTextsUptoRow.laid W) (hS : W.ShapedOpen Tryz.prog) : Glob (hp0 W) := by
  have h : laidMet Tryz.prog Rows.printTextsUptoRow.laid W := hL
  exact ⟨trivial, fact_ops h (by simp [Rows.printTextsUptoRow]), fact_signs h (by simp [Rows.printTextsUptoRow]), fact_shapes h (by simp [Rows.printTextsUptoRow]), fact_pow10 h (by
    have e : (Rows.laid_internal_strconv_uint64pow10 : DataW Unit) = Lib.tabData .u64 Lib.pow10Tab := by kernel_rfl
    rw [← e]; simp [Rows.printTextsUptoRow]), fact_maxLen hS⟩
theorem lay_ok : laidOutB Tryz.prog = true := jf_laid
theorem rec_T : Tryz.prog.readableRec 22 = true := by kernel_rfl
theorem row_T : 22 < Tryz.prog.types.size := of_decide_eq_true (by kernel_rfl)
set_option maxRecDepth 100000 in
theorem contract_texts (H : Type) (enc : TypeId × Value → H) (W : World) (base : Nat) (args : Array Value) (ds gs : List (DataW H)) (before : List MemPlace)
    (hval : ∀ (j : Nat) t v, Tryz.f3.params[j]? = some t → args[j]? = some v → Value.okWide Tryz.prog W .any base t v)
    (hW : DataW.Whole enc Tryz.prog Tryz.f3.params.toList Rows.printTextsSpec.vars false W args.toList ds gs before) (hk : Rows.uptoSmall H (ds ++ gs) = true) (hL : laidMetH Tryz.prog Rows.printTextsUptoRow.laid W) (hS : W.ShapedOpen Tryz.prog) :
    Calls Tryz.prog 3 args W fun e W' => ∃ v, e = .returned v ∧ Rows.printTextsSpec.post enc Tryz.prog Tryz.f3 false true false false W args v W' := by
  have hW' := hW
  obtain ⟨p, q, hA0, hV, rfl, hfz, hnd⟩ := hW
  have hA : DataW.TrodAll enc Tryz.prog W 0 (fun _ => true) true Tryz.f3.params.toList args.toList ds p := hA0
  rw [Tryz.params3] at hA hval
  obtain ⟨v0, vs0, d0, ds0, p0, q0, hargs, rfl, rfl, h0, r0⟩ := trodAll_cons hA
  obtain ⟨rfl, rfl, rfl⟩ := trodAll_nil r0
  obtain rfl : args = #[v0] := by cases args; simp_all
  obtain ⟨rfl, rfl⟩ := trodVars_none hV
  obtain ⟨a0, ln, cp, rfl⟩ := okWide_slice Tryz.underlying22 (hval 0 22 v0 rfl rfl)
  obtain ⟨fuel, hf⟩ := h0
  obtain ⟨v, z, hv, hz, hzl, hfit, hlab⟩ := read_text hf
  obtain rfl : Value.slice a0 ln cp = v := by simpa [Value.cells] using hv
  have hbulk : Rows.uptoBulkAll ([d0] ++ ([] : List (DataW H))) ≤ 1048576 := of_decide_eq_true hk
  simp only [List.append_nil, Rows.uptoBulkAll] at hbulk
  clear hA0
  have hlt := hW'.lt
  simp only [List.append_nil] at hW' hlt
  obtain ⟨k, hk⟩ := law_texts z hzl hfit (by simp only at hlab; omega)
  refine (ok_law03_PrintTexts k hk (sub0 (glob_texts hL hS)) hz).mono ?_
  rintro e W' ⟨v, rfl, h', S, rfl⟩
  refine ⟨_, rfl, post_still (pa := p0 ++ []) (pv := []) hW' (fun _ _ _ => trodAll_cons_mk (shut_bool Tryz.underlying4 _) trodAll_mk0) (fun sp hsp => trodAll_cons_mk (Below.spare lay_ok rec_T row_T ⟨fuel, hf⟩ (Stp.belowW S) (fun x hx => by simpa using hlt x hx) sp (fun x hx => hsp x hx)) trodAll_mk0) (fun _ _ => rfl) (by simp) (S.kept _)⟩

/-! a world for the witness: the door's own, the pinned table laid -/
def litCells : DataW Unit → Array Value
  | .agg ds => (ds.map fun d => match d with | .lit (.int k n) => Value.int k n | _ => undef).toArray
  | _ => #[]
noncomputable def laidW (os : Os) : World :=
  { World.doorLaid Tryz.prog 400 os with heap := (World.doorLaid Tryz.prog 400 os).heap.modify 5 fun
      | .cells _ t fr => .cells (litCells Rows.laid_unicode_utf8_first) t fr
      | o => o }
theorem laid_met (os : Os) : laidMet Tryz.prog Rows.printTextsUptoRow.laid ((laidW os).forCall (fun _ _ => 0) ⟨#[], #[.slice none 0 0], []⟩).memory :=
  laidMet_of_run' 8 (by kernel_rfl) (by kernel_rfl)
theorem reads (os : Os) {H : Type} (enc : TypeId × Value → H) : ∃ places, DataW.whole enc Tryz.prog ((laidW os).forCall (fun _ _ => 0) ⟨#[], #[.slice none 0 0], []⟩).memory Tryz.f3.params.toList Rows.printTextsSpec.vars false #[Value.slice none 0 0].toList 8 = some ([.nil], [], places) :=
  ⟨[], by kernel_rfl⟩
theorem lw_os (os : Os) : (laidW os).os = os := rfl
theorem lw_vars (os : Os) : ((laidW os).forCall (fun _ _ => 0) ⟨#[], #[.slice none 0 0], []⟩).variablesRefB Tryz.prog = true := by kernel_rfl
theorem lw_rest (os : Os) : (((laidW os).forCall (fun _ _ => 0) ⟨#[], #[.slice none 0 0], []⟩).heap.toList.drop Tryz.prog.globals.size).take ((begin Tryz.prog (fun _ _ => 0) default).world.heap.size - Tryz.prog.globals.size) =
      (begin Tryz.prog (fun _ _ => 0) default).world.heap.toList.drop Tryz.prog.globals.size := by kernel_rfl
theorem lw_ok (os : Os) : Input.okWideB Tryz.prog ((laidW os).forCall (fun _ _ => 0) ⟨#[], #[.slice none 0 0], []⟩) 3 ⟨#[], #[.slice none 0 0], []⟩ = true := by kernel_rfl
theorem lw_init : Tryz.prog.inits.idxOf? 3 = none := by kernel_rfl
set_option maxRecDepth 100000 in
theorem lifted_texts (os : Os) (started : os.Started) (H : Type) (enc : TypeId × Value → H) (F : Stop.Interp) :
    ReturnsInHanded {} Tryz.checked os 3 .any ((Rows.OpenSpec.upto Rows.printTextsSpec).preRow enc Tryz.prog Tryz.f3 Rows.printTextsUptoRow.domain false Rows.printTextsUptoRow.laid) (((Rows.OpenSpec.upto Rows.printTextsSpec).at F).post enc Tryz.prog Tryz.f3 false true false false) := by
  obtain ⟨places, hx⟩ := reads os enc
  refine returnsInHanded_of_row (C := Tryz.checked) (s := Rows.OpenSpec.upto Rows.printTextsSpec) ownK started lw_init Tryz.func3
    (witness_row_atRef (enc := enc) (C := Tryz.checked) false (laidW os) #[.slice none 0 0] (lw_os os) (lw_vars os) (lw_rest os) (lw_ok os)
      (OpenSpec.preRow_of_cond 8 hx (by kernel_rfl) (fun k hk => by cases hk; kernel_rfl) (by kernel_rfl) (laid_met os))) ?_
  intro W base args ds gs before hval hW _ hcond _ hL hS _
  exact contract_texts H enc W base args ds gs before hval hW (hcond _ rfl) hL hS
end Go.Proofs.YtaknpdhmhifpeaaGreatDoor
