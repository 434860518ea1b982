import Derived.Test.YtkodnhngllfemaaGreatDoorGP4
import Derived.Test.YtkodnhngllfemaaGreatDoorCards
import Derived.Test.YtkodnhngllfemaaGreatDoorTie
import Derived.WalkKit
import Derived.ProofKit
import Derived.OpenShut
import Derived.Deep.DeepHandedRow
import Derived.Deep.DeepWitnessRowRef
import Derived.Lib.LaidTab
import Derived.WideKeyElems2
import Derived.WideShapes
set_option linter.unusedVariables false
set_option linter.unusedSimpArgs false
namespace Go.Proofs.YtkodnhngllfemaaGreatDoor
open Go Go.ChangeShapes Go.WideShapes Go.ChangeAt Go.RowKit
theorem ownK : ownKnob Tryz.prog.godebug = none := by kernel_rfl
def hp0 (W : World) : Hp := { c := fun b o => W.cell? ⟨b, o, none⟩, base := W.heap.size, low := fun i => W.heap[i]?, mp := fun b => match W.heap[b]? with | some (.map es _) => some es | _ => none }
theorem hp0_mp {W : World} {b : Nat} {es : Array MapEntry} {clk : Nat} (h : W.heap[b]? = some (.map es clk)) : (hp0 W).mp b = some es := by
  show (match W.heap[b]? with | some (.map es _) => some es | _ => none) = _
  rw [h]
theorem sub0 {W : World} (g : Glob (hp0 W)) : Sub (hp0 W) W := by
  refine ⟨fun _ _ _ e => e, Nat.le_refl _, fun _ _ => rfl, g, fun b es e => ?_⟩
  have e' : (match W.heap[b]? with | some (.map es _) => some es | _ => none) = some es := e
  split at e'
  · rename_i es' clk hb
    cases e'; exact ⟨clk, hb⟩
  · cases e'
theorem Stp.kept {W W' : World} {h h' : Hp} (s : Stp [] W h W' h') (may : MemPlace → Prop) : W.keptBut W' may := by
  refine ⟨s.os, s.output, fun i hi => ?_⟩
  rw [s.block i hi (by simp)]
  cases W.heap[i]? with
  | none => rfl
  | some o => cases o <;> first | exact ⟨rfl, rfl, rfl, fun _ _ => rfl⟩ | exact .inr ⟨rfl, rfl⟩ | rfl
theorem post_still {H : Type} {enc : TypeId × Value → H} {P : Program} {f : Func} {s : ChangeSpec} {apart fresh handsOn : Bool} {W W' : World} {args : Array Value} {v : Value} {ds gs : List (DataW H)} {before pa pv : List MemPlace}
    (hW : DataW.Whole enc P f.params.toList s.vars apart W args.toList ds gs before)
    (hres : ∀ (b : Nat) (sp : Nat → Bool) (hd : Bool), DataW.TrodAll enc P W' b sp hd f.resultTypes.toList (v.resultList f.resultTypes.size) (s.fn H (ds ++ gs)).results [])
    (hargs : ∀ sp : Nat → Bool, (∀ p ∈ before, sp p.block = true) → DataW.TrodAll enc P W' 0 sp true f.params.toList args.toList (s.fn H (ds ++ gs)).args pa)
    (hvars : ∀ sp : Nat → Bool, (∀ p ∈ before, sp p.block = true) → DataW.TrodVars enc P W' sp s.vars (s.fn H (ds ++ gs)).vars pv)
    (hps : before = pa ++ pv) (hk : W.keptBut W' (· ∈ before)) :
    s.post enc P f apart fresh handsOn false W args v W' := by
  have hold : ∀ p ∈ before, (fun b => decide (b < W.heap.size)) p.block = true := fun p hp => by simpa using hW.lt p hp
  refine ⟨ds, gs, before, [], pa, pv, hW, hres _ _ _, hargs _ hold, hvars _ hold, World.keptBut_mono (fun p hp => ⟨hp, ?_⟩) hk, fun h => by cases h⟩
  rw [hps, List.mem_append] at hp
  exact Or.inr hp
theorem laid_at {W : World} : ∀ {l : List (String × DataW Unit)} {ps : List MemPlace}, DataW.LaidVars Tryz.prog W l ps → ∀ (n : String) (d : DataW Unit), (n, d) ∈ l →
    ∃ g t cs fuel p, Tryz.prog.globalNamed n = some g ∧ (Tryz.prog.globals[g]?).map (·.type) = some t ∧ W.var? Tryz.prog n = some cs ∧ DataW.trod (fun _ => ()) Tryz.prog W 0 (fun _ => true) false fuel t cs.toList = some (d, p)
  | [], _, _, n, d, hm => by simp at hm
  | (n', d') :: l, ps, h, n, d, hm => by
    obtain ⟨g, t, cs, fuel, p, q, h1, h2, h3, h4, h5, _⟩ := h
    rcases List.mem_cons.1 hm with e | hm
    · cases e; exact ⟨g, t, cs, fuel, p, h1, h2, h3, h4⟩
    · exact laid_at h5 n d hm
theorem var_heap {W : World} {n : String} {g : Nat} {cs : Array Value} (hg : Tryz.prog.globalNamed n = some g) (hv : W.var? Tryz.prog n = some cs) : ∃ T fr, W.heap[g]? = some (.cells cs T fr) := by
  unfold World.var? at hv
  rw [hg] at hv
  simp only [Option.bind_some] at hv
  split at hv
  · rename_i cs' T fr hb
    cases hv; exact ⟨T, fr, hb⟩
  · cases hv
theorem heap_lt {W : World} {g : Nat} {o : Obj} (h : W.heap[g]? = some o) : g < W.heap.size := (Array.getElem?_eq_some_iff.1 h).1
theorem fact_pow10 {W : World} {l : List (String × DataW Unit)} (h : laidMet Tryz.prog l W) (hm : ("internal/strconv.uint64pow10", Lib.tabData .u64 Lib.pow10Tab) ∈ l) :
    6 < (hp0 W).base ∧ ∃ T fr, (hp0 W).low 6 = some (.cells (Lib.pow10Tab.map fun z => Value.int .u64 z).toArray T fr) := by
  obtain ⟨ps, hl, _⟩ := h
  obtain ⟨g, t, cs, fuel, p, hg, ht, hv, hd⟩ := laid_at hl _ _ hm
  obtain rfl := Option.some.inj ((show Tryz.prog.globalNamed "internal/strconv.uint64pow10" = some 6 by kernel_rfl).symm.trans hg)
  obtain rfl := Option.some.inj ((show (Tryz.prog.globals[6]?).map (·.type) = some 218 by kernel_rfl).symm.trans ht)
  obtain ⟨T, fr, hb⟩ := var_heap hg hv
  have := Lib.cells_of_tab Tryz.underlying218 Tryz.underlying200 (show Tryz.prog.cellsOf 200 = 1 by kernel_rfl) (show Tryz.prog.cellsOf 218 = 20 by kernel_rfl) hd
  have e : cs = (Lib.pow10Tab.map fun z => Value.int .u64 z).toArray := Array.ext' (by rw [this])
  subst e
  exact ⟨heap_lt hb, T, fr, hb⟩
theorem formed_agg {P : Program} {t : TypeId} {fs : Array Field} {v : Value} (h : P.underlying t = some (.struct fs)) (hf : v.formed P t = true) : ∃ cs, v = .agg cs := by
  cases v with
  | agg cs => exact ⟨cs, rfl⟩
  | tuple cs => simp [Value.formed] at hf
  | _ => simp [Value.formed, h] at hf
theorem keyOf_i {P : Program} {k : TypeId} {v : Value} {q : IntKind} {n : Int} (h : P.underlying k = some (.int q)) (hk : keyOf P k v = some (.int q n)) : v = .int q n := by
  unfold keyOf at hk
  simp only [h] at hk
  unfold mapKey at hk
  rw [h] at hk
  cases v <;> simp at hk
  rename_i q' n'
  obtain ⟨⟨h1, _⟩, h2⟩ := hk
  subst h1; subst h2; rfl
def shapeD {H : Type} (x : Bool × Int × Int × Bool × Bool) : DataW H := .agg [.lit (.bool x.1), .lit (.int .i64 x.2.1), .lit (.int .i64 x.2.2.1), .lit (.bool x.2.2.2.1), .lit (.bool x.2.2.2.2)]
def shapeV (x : Bool × Int × Int × Bool × Bool) : Value := .agg #[.bool x.1, .int .i64 x.2.1, .int .i64 x.2.2.1, .bool x.2.2.2.1, .bool x.2.2.2.2]
theorem Z2o {cs : List Value} {i : Nat} {v : Value} (h : (cs.drop i).take 1 = [v]) : cs[i]? = some v := by
  have := congrArg (·[0]?) h
  simpa [List.getElem?_take, List.getElem?_drop] using this
theorem five {l : List Value} {a0 a1 a2 a3 a4 : Value} (hl : l.length = 5) (e0 : l[0]? = some a0) (e1 : l[1]? = some a1) (e2 : l[2]? = some a2) (e3 : l[3]? = some a3) (e4 : l[4]? = some a4) : l = [a0, a1, a2, a3, a4] := by
  match l, hl with
  | [b0, b1, b2, b3, b4], _ =>
    simp at e0 e1 e2 e3 e4
    rw [e0, e1, e2, e3, e4]
theorem shape_val {W : World} {base : Nat} {sp : Nat → Bool} {held : Bool} {n : Nat} {v : Value} {x : Bool × Int × Int × Bool × Bool} {ps : List MemPlace} (h : WideElems.elemAt (fun _ => ()) Tryz.prog W base sp held n 155 v = some (shapeD x, ps)) : v = shapeV x := by
  unfold WideElems.elemAt at h
  split at h
  · rename_i hf
    obtain ⟨xs, m, rfl, hx, hl, hlen, hat⟩ := DataW.trod_struct Tryz.underlying155 h
    have cS : Tryz.prog.cellsOf 155 = 5 := by kernel_rfl
    have c3 : Tryz.prog.cellsOf 3 = 1 := by kernel_rfl
    have c4 : Tryz.prog.cellsOf 4 = 1 := by kernel_rfl
    rw [cS] at hl
    obtain ⟨cs, rfl⟩ := formed_agg Tryz.underlying155 hf
    have hcl : (Value.agg cs).cells.toList = cs.toList := rfl
    rw [hcl] at hl hat
    have hx' : xs.map (·.1) = [.lit (.bool x.1), .lit (.int .i64 x.2.1), .lit (.int .i64 x.2.2.1), .lit (.bool x.2.2.2.1), .lit (.bool x.2.2.2.2)] := by
      have := congrArg Prod.fst hx
      simpa [shapeD] using this.symm
    have gb : ∀ (i : Nat) (b : Bool) (t off : Nat), (xs.map (·.1))[i]? = some (.lit (.bool b)) → Tryz.prog.underlying t = some .bool → Tryz.prog.cellsOf t = 1 → DataW.trod (fun _ => ()) Tryz.prog W base sp held m t ((cs.toList.drop off).take (Tryz.prog.cellsOf t)) = xs[i]? → cs.toList[off]? = some (.bool b) := by
      intro i b t off h1 hu h2 h3
      rw [h2] at h3
      rw [List.getElem?_map] at h1
      obtain ⟨y, hy, h4⟩ := Option.map_eq_some_iff.1 h1
      rw [hy] at h3
      obtain ⟨b', q1, q2⟩ := DataW.trod_bool hu h3
      rw [q2] at h4
      cases h4
      exact Z2o q1
    have gi : ∀ (i : Nat) (b : Int) (t off : Nat), (xs.map (·.1))[i]? = some (.lit (.int .i64 b)) → Tryz.prog.underlying t = some (.int .i64) → Tryz.prog.cellsOf t = 1 → DataW.trod (fun _ => ()) Tryz.prog W base sp held m t ((cs.toList.drop off).take (Tryz.prog.cellsOf t)) = xs[i]? → cs.toList[off]? = some (.int .i64 b) := by
      intro i b t off h1 hu h2 h3
      rw [h2] at h3
      rw [List.getElem?_map] at h1
      obtain ⟨y, hy, h4⟩ := Option.map_eq_some_iff.1 h1
      rw [hy] at h3
      obtain ⟨b', q1, q2, _⟩ := DataW.trod_int hu h3
      rw [q2] at h4
      cases h4
      exact Z2o q1
    have e0 := gb 0 x.1 4 0 (by rw [hx']; rfl) Tryz.underlying4 c4 (hat 0 _ rfl)
    have e1 := gi 1 x.2.1 3 1 (by rw [hx']; rfl) Tryz.underlying3 c3 (hat 1 _ rfl)
    have e2 := gi 2 x.2.2.1 3 2 (by rw [hx']; rfl) Tryz.underlying3 c3 (hat 2 _ rfl)
    have e3 := gb 3 x.2.2.2.1 4 3 (by rw [hx']; rfl) Tryz.underlying4 c4 (hat 3 _ rfl)
    have e4 := gb 4 x.2.2.2.2 4 4 (by rw [hx']; rfl) Tryz.underlying4 c4 (hat 4 _ rfl)
    have e : cs.toList = [.bool x.1, .int .i64 x.2.1, .int .i64 x.2.2.1, .bool x.2.2.2.1, .bool x.2.2.2.2] := five hl e0 e1 e2 e3 e4
    have e' : cs = #[.bool x.1, .int .i64 x.2.1, .int .i64 x.2.2.1, .bool x.2.2.2.1, .bool x.2.2.2.2] := Array.ext' (by rw [e])
    rw [e']; rfl
  · cases h
def shapesT : List (Int × (Bool × Int × Int × Bool × Bool)) := [(1, (true, 1, 1, false, false)), (2, (true, 0, 501, false, false)), (3, (false, 1, 1, true, true)), (4, (false, 1, 1, false, true)), (5, (true, 2, 2, true, false)), (6, (false, 1, 1, true, false)), (7, (false, 1, 1, true, false)), (8, (false, 0, 0, false, false)), (9, (false, 0, 0, false, false))]
theorem shapesT_data : (Rows.laid_winch_ast_shapes : DataW Unit) = .map (shapesT.map fun p => (.int .i64 p.1, shapeD p.2)) := by kernel_rfl
theorem fact_shapes {W : World} {l : List (String × DataW Unit)} (h : laidMet Tryz.prog l W) (hm : ("winch/ast.shapes", Rows.laid_winch_ast_shapes) ∈ l) :
    ∃ v, (hp0 W) 0 0 = some v ∧ RM shapeV (hp0 W) v shapesT := by
  obtain ⟨ps, hl, _⟩ := h
  obtain ⟨g, t, cs, fuel, p, hg, ht, hv, hd⟩ := laid_at hl _ _ hm
  obtain rfl := Option.some.inj ((show Tryz.prog.globalNamed "winch/ast.shapes" = some 0 by kernel_rfl).symm.trans hg)
  obtain rfl := Option.some.inj ((show (Tryz.prog.globals[0]?).map (·.type) = some 157 by kernel_rfl).symm.trans ht)
  obtain ⟨T, fr, hb⟩ := var_heap hg hv
  rw [shapesT_data] at hd
  rcases WideElems.open_map Tryz.underlying157 hd with ⟨_, hx⟩ | ⟨b, es, clk, m, rfl, hcs, hes, _, F, hx⟩
  · cases hx
  have hsort := congrArg Prod.fst hx
  simp only [DataW.map.injEq] at hsort
  have hperm := sorted_perm (es.toList.map (WideElems.rg Tryz.prog 3 (WideElems.elemAt (fun _ => ()) Tryz.prog W 0 (fun _ => true) false m 155)))
  rw [← hsort] at hperm
  have hcell : (hp0 W) 0 0 = some (.map (some b)) := by
    show W.cell? ⟨0, 0, none⟩ = _
    simp only [World.cell?, hb]
    rw [Array.eq_one_of_toList hcs]; rfl
  refine ⟨_, hcell, b, es, rfl, hp0_mp hes, findNow_perm (by decide) (fun e he => ?_) (fun p hp => ?_)⟩
  · obtain ⟨y, hy⟩ := F.reads e he
    have h1 : y ∈ shapesT.map fun p => ((.int .i64 p.1 : Lit), (shapeD p.2 : DataW Unit)) := hperm.mem_iff.2 (List.mem_map.2 ⟨e, he, WideElems.rg_of hy⟩)
    obtain ⟨p, hp, rfl⟩ := List.mem_map.1 h1
    refine ⟨p, hp, ?_, ?_⟩
    · exact keyOf_i Tryz.underlying3 (WideElems.rd_key hy)
    · obtain ⟨z, hz, hz2⟩ := WideElems.rd_val hy
      exact shape_val (ps := z.2) (by rw [hz]; exact congrArg some (Prod.ext hz2.symm rfl))
  · have h1 : ((.int .i64 p.1 : Lit), (shapeD p.2 : DataW Unit)) ∈ es.toList.map (WideElems.rg Tryz.prog 3 (WideElems.elemAt (fun _ => ()) Tryz.prog W 0 (fun _ => true) false m 155)) := hperm.mem_iff.1 (List.mem_map.2 ⟨p, hp, rfl⟩)
    obtain ⟨e, he, hre⟩ := List.mem_map.1 h1
    refine ⟨e, he, ?_⟩
    obtain ⟨y, hy⟩ := F.reads e he
    rw [WideElems.rg_of hy] at hre
    subst hre
    exact keyOf_i Tryz.underlying3 (WideElems.rd_key hy)
end Go.Proofs.YtkodnhngllfemaaGreatDoor
