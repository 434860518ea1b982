import Derived.Test.YtkodnhngllfemaaGreatDoorB19
import Derived.RangeFuncLeaves
import Derived.RangeFuncRecord
set_option linter.unusedVariables false
set_option linter.unusedSimpArgs false
namespace Go.Proofs.YtkodnhngllfemaaGreatDoor
open Go
section
variable {P : Program} {n : NS} {ops : Array Oper} {Q : Exit → Act → World → Prop} {E : Env} {w w' : World} {h : Hp} {rest : List Oper} {d : Nat} {dd : Option Tmp} {ty : TypeId} {ps : String} {af : Array Edge} {g : Option (Nat × Bool)} {x y : Operand} {t u : TypeId} {v : Value}
theorem ov_allocN {z : Value} {zs : List Value} (hz : tZero P t = some z) (hzs : z.cells.toList = zs) : OV P ⟨dd, .alloc t, ty, ps, af, g⟩ E w (.pointer (some ⟨w.heap.size, 0, none⟩)) (w.alloc (.cells zs.toArray t)) := fun m a ha => by
  subst hzs
  have e : z.cells = z.cells.toList.toArray := by simp
  rw [← e]
  simp [execOp, Instr.alloc, Sem.run_bind, run_zero hz, newVar, newRow]
theorem ou_store {b o T : Nat} {vs cs ds : List Value} (hx : ev E x = some (.pointer (some ⟨b, o, none⟩))) (hy : ev E y = some v)
    (hvs : v.cells.toList = vs) (hsz : Zhb P t = some vs.length) (h1 : ∀ u ∈ vs, u.oneCell' = true) (hb : OB w h b T cs) (hl : o + vs.length ≤ cs.length) (hd : cs.take o ++ vs ++ cs.drop (o + vs.length) = ds) :
    OU P ⟨dd, .store t x y, ty, ps, af, g⟩ E w (w.setRow b ds.toArray) := fun m a ha => by
  subst hvs
  have hst := run_storeCells_at (P := P) b o T v.cells.toList 0 cs.toArray w hb.heap (by simpa using hl) h1
  have hsize : (sizeOf t).run P w = .ok v.cells.size w := by rw [Z83 hsz]; simp
  simp only [execOp, ha.ev hx, ha.ev hy, Instr.storeAt, Instr.sureAddr, Sem.run_bind, Sem.run_pure, Result.andThen_ok, storeVar, hsize, ne_eq, not_true_eq_false, if_false]
  simp only [Nat.add_zero] at hst
  simp only [hst, hd, Result.andThen_ok, Sem.run_pure]
theorem ov_append {v2 v' : Value} (hx : ev E x = some v) (hy : ev E y = some v2) (hr : (Builtin.append_ #[t, t] ty #[v, v2]).run P w = .ok v' w') : OV P ⟨dd, .call ⟨.builtin .append, #[x, y], #[t, t]⟩, ty, ps, af, g⟩ E w v' w' := fun m a ha => by
  simp only [execOp, resolve, Sem.run_bind, Sem.run_pure, Result.andThen_ok, invoke, builtin, List.map_toArray, List.map_cons, List.map_nil, ha.ev hx, ha.ev hy, hr]
def notCM : Obj → Bool
  | .cells .. => false
  | .map .. => false
  | _ => true
theorem Ze5 {l : Nat} {o o' : Obj} (hs : Sub h w) (hl : w.heap[l]? = some o) (ho : notCM o = true) (hb : h.base ≤ l) : Stp [l] w h (w.putObj l o') h := by
  have hc : ∀ b p u, h b p = some u → b ≠ l := fun b p u e q => by
    subst q
    have := hs.at_ b p u e
    unfold World.cell? at this
    rw [hl] at this
    cases o <;> first | exact absurd ho Bool.false_ne_true | simp at this
  refine ⟨rfl, rfl, rfl, by simp, fun i _ hn => World.putObj_heap_other (by simpa using hn), ⟨fun b p u e => ?_, by have := hs.big; simp; omega, fun i hi => ?_, hs.glob, fun b es e => ?_⟩, rfl, rfl, Hle.refl h, fun _ _ _ _ => rfl, fun _ _ _ => rfl⟩
  · rw [World.cell?_of_block (w := w) (World.putObj_heap_other (hc b p u e))]
    exact hs.at_ b p u e
  · rw [World.putObj_heap_other (by omega)]; exact hs.lows i hi
  · obtain ⟨clk, hk⟩ := hs.maps b es e
    have hne : b ≠ l := fun q => by subst q; rw [hl] at hk; cases hk; cases ho
    exact ⟨clk, (World.putObj_heap_other hne).trans hk⟩
theorem enterM {f : FuncId} {fn : Func} {c : Code} {args : List Value} {R : Ending → World → Prop} (hf : P.funcs[f]? = some fn) (hb : fn.body = some c) (hnt : fn.ntmps = n.n) (hn : Nat.ble args.length n = true)
    (E : Env) (hE : argE 0 args = E) (k : WC P n c (bodyPostM Fence.wide 0 P fn R) E w) (hds : n.ds = [] := by rfl) : Calls P f args.toArray w R := by
  obtain ⟨n, ds⟩ := n
  simp only at hnt hds
  subst hnt; subst hds
  refine callsIn_wide.1 (callsIn_of_wp_marks hf hb trivial (wpIn_wide.2 (k _ ⟨rfl, ?_, fun t v ht => ?_⟩)))
  · have := Nat.le_of_ble_eq_true hn
    simp; simp at this; omega
  · rw [← hE] at ht
    have h1 := (lk_argE args 0 t v ht).2
    simp only [Nat.sub_zero] at h1
    rw [Array.getD_eq_getD_getElem?, Array.getElem?_append]
    split
    · simp [h1]
    · rename_i hlt; rw [List.getElem?_eq_none (by simpa using hlt)] at h1; cases h1
theorem WQ.M0 {fn : Func} {R : Ending → World → Prop} (hg : RG P n E w fn v) (hr : R (.returned v) w) (hds : n.ds = [] := by rfl) : WQ n (bodyPostM Fence.wide 0 P fn R) .ret E w := fun a ha => by
  show LeavesInM Fence.wide 0 P fn a.tmps R a.defers .returning w
  rw [ha.defers, hds]
  exact ⟨v, hg a ha, hr⟩
theorem WQ.M1 {fn : Func} {R : Ending → World → Prop} {D : Nat} (hD : w.heap[D]? = some (.deferred (some []))) (hg : RG P n E (w.putObj D (.deferred none)) fn v) (hr : R (.returned v) (w.putObj D (.deferred none))) (hds : n.ds = [{ target := .collected D, args := #[] }] := by rfl) :
    WQ n (bodyPostM Fence.wide 0 P fn R) .ret E w := fun a ha => by
  show LeavesInM Fence.wide 0 P fn a.tmps R a.defers .returning w
  rw [ha.defers, hds]
  exact ⟨(by simp), .inl ⟨D, _, rfl, run_takeDeferred hD, v, hg a ha, hr⟩⟩
theorem WC.rangeFunc {gg : Operand} {pp : Array Tmp} {assign body : Code} {gf : FuncId} {lb : List Value} (hg : ev E gg = some (.func (.func gf) #[] lb.toArray)) (he : entB P gf = true) (hds : n.ds = [])
    (k : ∀ (a : Act) (fn : FuncId), At n E a → ∀ W1, W1 = (w.alloc (.deferred (some []))).alloc (.loop { state := .ready, pending := none, fn, tmps := a.tmps, params := pp, assign, body, defers := w.heap.size }) →
      Calls P gf (.func (.yield (w.heap.size + 1)) #[] #[] :: lb).toArray W1 fun e w3 => ∃ v jump w4, e = .returned v ∧ (Instr.endLoop (w.heap.size + 1)).run P w3 = .ok jump w4 ∧
        match jump with
        | none => WQ ⟨n.n, [{ target := .collected w.heap.size, args := #[] }]⟩ Q .normal E w4
        | some c => WC P ⟨n.n, [{ target := .collected w.heap.size, args := #[] }]⟩ c Q E w4) : WC P n (.rangeFunc gg pp assign body) Q E w := fun a ha => by
  refine (wpIn_wide (n := 0)).1 (wpIn_rangeFunc fun fn _ => ?_)
  obtain ⟨W1, hW1⟩ : ∃ W1, W1 = (w.alloc (.deferred (some []))).alloc (.loop { state := .ready, pending := none, fn, tmps := a.tmps, params := pp, assign, body, defers := w.heap.size }) := ⟨_, rfl⟩
  have hk := k a fn ha W1 hW1
  refine ⟨w.heap.size + 1, [{ target := .collected w.heap.size, args := #[] }], W1, { target := .fn (.func gf) lb.toArray, args := #[.func (.yield (w.heap.size + 1)) #[] #[]] }, W1, gf,
    (.func (.yield (w.heap.size + 1)) #[] #[] :: lb).toArray, W1, (by rw [hW1]; exact run_enterLoop_outer _ _ _ _ _), ?_, fun _ _ => trivial, ?_, fun q => (by simp [Fence.wide] at q), callsIn_wide.2 (hk.mono ?_)⟩
  · simp only [resolve, ha.ev hg]
    simp [Deferred.ofValue, Act.eval]
  · have := Zb2 (P := P) he (#[.func (.yield (w.heap.size + 1)) #[] #[]] ++ lb.toArray) W1
    simp only [invoke]
    simpa using this
  · rintro e w3 ⟨v, jump, w4, rfl, hend, hq⟩
    refine ⟨jump, w4, hend, ?_⟩
    have hat : At ⟨n.n, [{ target := .collected w.heap.size, args := #[] }]⟩ E { a with defers := [{ target := .collected w.heap.size, args := #[] }] ++ a.defers } := ⟨by rw [ha.defers, hds]; rfl, ha.size, ha.slot⟩
    cases jump with
    | none => exact hq _ hat
    | some c => exact wpIn_wide.2 (hq _ hat)
theorem yieldAt_of {l : Nat} {L : Loop} {args : Array Value} {E0 : Env} {nn : NS} {R : Ending → World → Prop} (hl : w.heap[l]? = some (.loop L)) (hsz : args.size = L.params.size) (hat : At nn E0 { tmps := (L.params.zip args).foldl (fun tmps (t, a) => tmps.setIfInBounds t a) L.tmps, defers := [] })
    (k : WZ (Fence.wide.inRound l) P nn L.assign (Exit.then (fun a₁ w₁ => ∃ w₂, (Instr.beginRound l).run P w₁ = .ok () w₂ ∧ L.body.wpIn (Fence.wide.inRound l) 0 P (roundPost P l R) a₁ w₂) (fun _ _ _ => False)) E0 w) : YieldAt Fence.wide 0 P l args w R :=
  ⟨L.fn, _, L.assign, L.body, run_yield hl hsz, roundIn_of_wpIn trivial (k _ hat)⟩
theorem WQ.begin {l : Nat} {L : Loop} {R : Ending → World → Prop} (hl : w.heap[l]? = some (.loop L)) (hr : L.state = .ready) {body : Code} (k : WZ (Fence.wide.inRound l) P n body (roundPost P l R) E (w.putObj l (.loop { L with state := .busy }))) :
    WQ n (Exit.then (fun a₁ w₁ => ∃ w₂, (Instr.beginRound l).run P w₁ = .ok () w₂ ∧ body.wpIn (Fence.wide.inRound l) 0 P (roundPost P l R) a₁ w₂) (fun _ _ _ => False)) .normal E w := fun a ha => ⟨_, run_beginRound hl hr, k a ha⟩
theorem WQ.roundN {l : Nat} {L : Loop} {R : Ending → World → Prop} (hl : w.heap[l]? = some (.loop L)) (hR : R (.returned (.bool true)) (w.putObj l (.loop { L with state := .ready, pending := none }))) : WQ n (roundPost P l R) .normal E w := fun a ha => ⟨_, _, run_endRound none hl, hR⟩
theorem WQ.roundR {l : Nat} {L : Loop} {R : Ending → World → Prop} (hl : w.heap[l]? = some (.loop L)) (hR : R (.returned (.bool false)) (w.putObj l (.loop { L with state := .done, pending := some .ret }))) : WQ n (roundPost P l R) .ret E w := fun a ha => ⟨_, _, run_endRound (some .ret) hl, hR⟩
theorem WQ.blockRetD {id : Nat} (k : WQ n Q .ret E w) : WQ n (Exit.inBlock id Q) .ret E w := k
theorem WQ.blockND {id : Nat} (k : WQ n Q .normal E w) : WQ n (Exit.inBlock id Q) .normal E w := k
theorem WQ.thenRetD {K : Act → World → Prop} (k : WQ n Q .ret E w) : WQ n (Exit.then K Q) .ret E w := k
end
end Go.Proofs.YtkodnhngllfemaaGreatDoor
