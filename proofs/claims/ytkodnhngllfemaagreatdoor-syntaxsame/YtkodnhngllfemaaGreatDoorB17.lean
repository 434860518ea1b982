import Derived.Test.YtkodnhngllfemaaGreatDoorB16
import Derived.RangeFuncLeaves
import Derived.Recover
import Derived.WideLaws
set_option linter.unusedVariables false
set_option linter.unusedSimpArgs false
namespace Go.Proofs.YtkodnhngllfemaaGreatDoor
open Go
def catchE {ε α β : Type} (x : Except ε α) (c : ε → Option β) (f : α → Option β) : Option β := match x with
  | .error t => c t
  | .ok a => f a
theorem catchE_err {ε α β : Type} {t : ε} {c : ε → Option β} {f : α → Option β} {r : β} (h : catchE (.error t) c f = some r) : c t = some r := h
theorem catchE_ok {ε α β : Type} {a : α} {c : ε → Option β} {f : α → Option β} {r : β} (h : catchE (.ok a) c f = some r) : f a = some r := h
def resRun (tmps : Array Value) : ResultVar → Sem Value
  | .tmp t => pure (tmps.getD t undef)
  | .cell a t => do loadVar t (← asAddr (tmps.getD a undef))
theorem results_eq (fn : Func) (tmps : Array Value) : results fn tmps = (do
  let vs ← fn.results.mapM (resRun tmps)
  pure (if h : vs.size = 1 then vs[0] else .tuple vs)) := by
  unfold results
  congr 1
section
variable {P : Program} {n : NS} {ops : Array Oper} {Q : Exit → Act → World → Prop} {E : Env} {w w' : World} {h : Hp} {rest : List Oper} {d : Option Tmp} {dd : Nat} {ty : TypeId} {ps : String} {af : Array Edge} {g : Option (Nat × Bool)}
def RI (P : Program) (n : NS) (E : Env) (w : World) (r : ResultVar) (v : Value) : Prop := ∀ a, At n E a → (resRun a.tmps r).run P w = .ok v w
theorem ri_tmp {t : Tmp} {v : Value} (hv : lk E t = some v) : RI P n E w (.tmp t) v := fun a ha => by
  simp only [resRun, Sem.run_pure, ha.slot t v hv]
theorem Z5k {t ty b o : Nat} {v : Value} (hv : lk E t = some (.pointer (some ⟨b, o, none⟩))) (hl : (loadVar ty ⟨b, o, none⟩).run P w = .ok v w) : RI P n E w (.cell t ty) v := fun a ha => by
  simp only [resRun, ha.slot t _ hv]
  simp [asAddr, hl]
def RG (P : Program) (n : NS) (E : Env) (w : World) (fn : Func) (v : Value) : Prop := ∀ a, At n E a → (results fn a.tmps).run P w = .ok v w
theorem rg2 {fn : Func} {r s : ResultVar} {v u : Value} (hr : fn.results = #[r, s]) (h1 : RI P n E w r v) (h2 : RI P n E w s u) : RG P n E w fn (.tuple #[v, u]) := fun a ha => by
  rw [results_eq, hr]
  simp [h1 a ha, h2 a ha]
theorem rg3 {fn : Func} {r s t : ResultVar} {v u x : Value} (hr : fn.results = #[r, s, t]) (h1 : RI P n E w r v) (h2 : RI P n E w s u) (h3 : RI P n E w t x) : RG P n E w fn (.tuple #[v, u, x]) := fun a ha => by
  rw [results_eq, hr]
  simp [h1 a ha, h2 a ha, h3 a ha]
theorem Zgy {fn : Func} {v : Value} {R : Ending → World → Prop} (hg : RG P n E w fn v) (h : R (.returned v) w) (hd : n.ds = [] := by rfl) : WQ n (bodyPost P fn R) .ret E w := fun a ha => bodyPost_ret (hg a ha) (ha.defers.trans hd) h
def tConc (P : Program) (t : TypeId) : Bool := match P.underlying t with
  | some (.interface _) => false
  | some _ => true
  | none => false
theorem ov_makeIface {x : Operand} {t : TypeId} {v : Value} (hx : ev E x = some v) (ht : tConc P t = true) : OV P ⟨d, .makeInterface t x, ty, ps, af, g⟩ E w (.iface t v) w := fun n a ha => by
  unfold tConc at ht
  split at ht
  · cases ht
  · rename_i k hk hu
    simp only [execOp, ha.ev hx, Instr.makeInterface, Sem.run_bind, run_underlying hu, Result.andThen_ok]
    simp
  · cases ht
theorem WL.panicI {x : Operand} {t : TypeId} {v : Value} (hg : Z8f ops E ⟨none, .panic x, ty, ps, af, g⟩ = some true) (hx : ev E x = some (.iface t v)) (k : WQ n Q (.panic [{ v := .iface t v, recovered := false }]) E w) : WL P n ops Q (⟨none, .panic x, ty, ps, af, g⟩ :: rest) E w :=
  WL.panic hg (fun m a ha => by simp [execOp, ha.ev hx, run_panic_iface]) k
theorem Z51 {f : FuncId} {bs cs : List Operand} {us vs : List Value} (hb : bs.map (ev E) = us.map some) (h : cs.map (ev E) = vs.map some) : OV P ⟨d, .makeFunc (.func f) bs.toArray cs.toArray, ty, ps, af, g⟩ E w (.func (.func f) us.toArray vs.toArray) w := fun n a ha => by
  simp [execOp, Instr.makeFunc, map_ev ha h, map_ev ha hb]
theorem Z99 {f : FuncId} {x : Operand} {xs : List Operand} {us vs caps : List Value} {ats : Array TypeId} (hx : ev E x = some (.func (.func f) us.toArray caps.toArray)) (hv : xs.map (ev E) = vs.map some) (he : entB P f = true) : OC P ⟨d, .call ⟨.value x, xs.toArray, ats⟩, ty, ps, af, g⟩ E w f (us ++ vs ++ caps).toArray := fun m a ha => by
  have := Zb2 (P := P) he (us ++ vs ++ caps).toArray w
  simp only [execOp, resolve, ha.ev hx, Deferred.ofValue, Sem.run_bind, Sem.run_pure, Result.andThen_ok, invoke, List.map_toArray, map_ev ha hv]
  simpa using this
theorem WL.defer {f : FuncId} {x : Operand} {caps : List Value} {ats : Array TypeId} (hg : Z8f ops E ⟨none, .defer ⟨.value x, #[], ats⟩, ty, ps, af, g⟩ = some true) (hx : ev E x = some (.func (.func f) #[] caps.toArray))
    (k : WL P ⟨n.n, { target := .fn (.func f) caps.toArray, args := #[] } :: n.ds⟩ ops Q rest E w) : WL P n ops Q (⟨none, .defer ⟨.value x, #[], ats⟩, ty, ps, af, g⟩ :: rest) E w := fun a ha => by
  refine Z6k (Z6e ha hg) ?_
  unfold Oper.wp
  have e : (execOp a.eval ⟨none, .defer ⟨.value x, #[], ats⟩, ty, ps, af, g⟩).run P w = .ok (.defer { target := .fn (.func f) caps.toArray, args := #[] }) w := by
    simp [execOp, resolve, ha.ev hx, Deferred.ofValue]
  rw [e, Oper.upon_defer]
  exact k _ ⟨by simp [Act.put, ha.defers], by simpa [Act.put] using ha.size, fun t v ht => by simpa [Act.put] using ha.slot t v ht⟩
theorem enterD {f : FuncId} {fn : Func} {c : Code} {args : List Value} {R : Ending → World → Prop} (hf : P.funcs[f]? = some fn) (hb : fn.body = some c) (hnt : fn.ntmps = n.n) (hn : Nat.ble args.length n = true)
    (E : Env) (hE : argE 0 args = E) (k : WC P n c (bodyPostD P fn R) E w) (hds : n.ds = [] := by rfl) : Calls P f args.toArray w R := by
  obtain ⟨n, ds⟩ := n
  simp only at hnt hds
  subst hnt; subst hds
  refine calls_of_wp_defers hf hb (k _ ⟨rfl, ?_, fun t v ht => ?_⟩)
  · have := Nat.le_of_ble_eq_true hn
    simp; simp at this; omega
  · rw [← hE] at ht
    have h1 := (lk_argE args 0 t v ht).2
    simp only [Nat.sub_zero] at h1
    rw [Array.getD_eq_getD_getElem?, Array.getElem?_append]
    split
    · simp [h1]
    · rename_i hlt; rw [List.getElem?_eq_none (by simpa using hlt)] at h1; cases h1
theorem WQ.D0ret {fn : Func} {R : Ending → World → Prop} (k : WQ n (bodyPost P fn R) .ret E w) : WQ n (bodyPostD P fn R) .ret E w := fun a ha => by
  obtain ⟨h1, v, h2, h3⟩ := k a ha
  show Leaves P fn a.tmps R a.defers .returning w
  rw [h1]
  exact ⟨v, h2, h3⟩
theorem WQ.D1ret {fn : Func} {f : FuncId} {caps : List Value} {R : Ending → World → Prop} {K : Value → World → Prop} (hds : n.ds = [{ target := .fn (.func f) caps.toArray, args := #[] }]) (he : entB P f = true)
    (hc : CallsD P f caps.toArray .returning w fun e u w1 => u = .returning ∧ ∃ v, e = .returned v ∧ K v w1) (k : ∀ q w1, K q w1 → ∃ v, RG P n E w1 fn v ∧ R (.returned v) w1) : WQ n (bodyPostD P fn R) .ret E w := fun a ha => by
  show Leaves P fn a.tmps R a.defers .returning w
  rw [ha.defers, hds]
  refine leaves_cons (f := f) (args := caps.toArray) (by simp) ?_ (hc.mono ?_)
  · simpa [invoke] using Zb2 (P := P) he caps.toArray w
  · rintro e u w1 ⟨rfl, q, rfl, hk⟩
    obtain ⟨v, hg, hr⟩ := k q w1 hk
    exact ⟨v, hg a ha, hr⟩
theorem WQ.D1panic {fn : Func} {f : FuncId} {caps : List Value} {R : Ending → World → Prop} {K : Value → World → Prop} {x : Value} (hds : n.ds = [{ target := .fn (.func f) caps.toArray, args := #[] }]) (he : entB P f = true)
    (hc : CallsD P f caps.toArray (.panicking [{ v := x, recovered := false }]) w fun e u w1 => u = .panicking [{ v := x, recovered := true }] ∧ ∃ v, e = .returned v ∧ K v w1) (k : ∀ q w1, K q w1 → ∃ v, RG P n E w1 fn v ∧ R (.returned v) w1) :
    WQ n (bodyPostD P fn R) (.panic [{ v := x, recovered := false }]) E w := fun a ha => by
  show Leaves P fn a.tmps R a.defers (.panicking [{ v := x, recovered := false }]) w
  rw [ha.defers, hds]
  refine leaves_cons (f := f) (args := caps.toArray) (by simp) ?_ (hc.mono ?_)
  · simpa [invoke] using Zb2 (P := P) he caps.toArray w
  · rintro e u w1 ⟨rfl, q, rfl, hk⟩
    obtain ⟨v, hg, hr⟩ := k q w1 hk
    show Leaves P fn a.tmps R [] (settle (.panicking [{ v := x, recovered := true }])) w1
    exact ⟨v, hg a ha, hr⟩
theorem enterR {f : FuncId} {fn : Func} {id : Nat} {rest : Code} {args : List Value} {R : Ending → World → Prop} {u u' : FrameMode} {x : Value} (hu : (u = .returning ∧ x = .nilIface ∧ u' = .returning) ∨ ∃ v, u = .panicking [{ v, recovered := false }] ∧ x = v ∧ u' = .panicking [{ v, recovered := true }])
    {ats : Array TypeId} (hf : P.funcs[f]? = some fn) (hb : fn.body = some (.seq (.region id #[⟨some dd, .call ⟨.builtin .recover, #[], ats⟩, ty, ps, af, none⟩] false) rest)) (hnt : fn.ntmps = n.n) (hn : Nat.ble args.length n = true) (hd : Nat.blt dd n = true)
    (E : Env) (hE : (dd, x) :: argE 0 args = E) (k : WC P n rest (bodyPost P fn R) E w) (hds : n.ds = [] := by rfl) : CallsD P f args.toArray u w fun e v w1 => v = u' ∧ R e w1 := by
  obtain ⟨n, ds⟩ := n
  simp only at hnt hds
  subst hnt; subst hds
  refine callsD_of_wpS hf hb (fun c₀ cs hc => wpS_seq (wpS_region ?_))
  have hrun : ∀ a : Act, (execOp a.eval ⟨some dd, .call ⟨.builtin .recover, #[], ats⟩, ty, ps, af, none⟩).run P w = .ok .recover w := fun a => rfl
  have hat : At ⟨fn.ntmps, []⟩ (argE 0 args) { tmps := args.toArray ++ Array.replicate (fn.ntmps - args.toArray.size) undef, defers := [] } := by
    refine ⟨rfl, ?_, fun t v ht => ?_⟩
    · have := Nat.le_of_ble_eq_true hn
      simp; simp at this; omega
    · have h1 := (lk_argE args 0 t v ht).2
      simp only [Nat.sub_zero] at h1
      rw [Array.getD_eq_getD_getElem?, Array.getElem?_append]
      split
      · simp [h1]
      · rename_i hlt; rw [List.getElem?_eq_none (by simpa using hlt)] at h1; cases h1
  have hat2 := hat.put (d := dd) (by simpa [Nat.blt_eq] using hd) x
  have key := k _ (by rw [← hE]; exact hat2)
  have hrest : ∀ c1 : Frame, c1 = { c₀ with mode := u' } → Code.wpS P rest (bodyPostS P fn c₀ cs fun e v w1 => v = u' ∧ R e w1) (Act.put { tmps := args.toArray ++ Array.replicate (fn.ntmps - args.toArray.size) undef, defers := [] } (some dd) x) (c1 :: cs) w := by
    rintro c1 rfl
    refine wpS_of_wp (wp_mono key ?_)
    intro e a w1 hq
    cases e with
    | normal => obtain ⟨h1, v, h2, h3⟩ := hq; exact ⟨h1, u', rfl, v, h2, rfl, h3⟩
    | ret => obtain ⟨h1, v, h2, h3⟩ := hq; exact ⟨h1, u', rfl, v, h2, rfl, h3⟩
    | panic ch => obtain ⟨h1, h3⟩ := hq; exact ⟨h1, u', rfl, rfl, h3⟩
    | exit id => exact hq
    | goto l => exact hq
    | outgrown => exact ⟨u', rfl, hq⟩
  simp only [List.size_toArray, List.length_cons, List.length_nil, Nat.zero_add, List.range_succ, List.range_zero, List.nil_append, wpOpsS, List.getElem?_toArray, List.getElem?_cons_zero, Region.wanted, if_true, hrun]
  rcases hu with ⟨rfl, rfl, rfl⟩ | ⟨v, rfl, rfl, rfl⟩
  · have : recoverD (c₀ :: cs) = none := by simp [recoverD, hc]
    simp only [this]
    exact hrest c₀ (by cases c₀; simp only at hc; subst hc; rfl)
  · have : recoverD (c₀ :: cs) = some (x, { c₀ with mode := .panicking [{ v := x, recovered := true }] } :: cs) := by simp [recoverD, hc]
    simp only [this]
    exact hrest _ rfl
end
theorem Own.ne_obS {α : Type} [Rp α] {w : World} {h : Hp} {base e sz c T : Nat} {v : Value} {xs : List α} {ds : List Value} (own : Own w h base e sz v xs.length) (rs : RS h v xs) (ob : OB w h c T ds) : ∀ b ∈ v.ownBlock.toList, c ≠ b := by
  rcases own with ⟨rfl, _⟩ | ⟨g, cap, cur, rfl, hb, hg, hle, hc, _⟩
  · simp [Value.ownBlock]
  · intro b hb2
    simp [Value.ownBlock] at hb2
    subst hb2
    rintro rfl
    obtain ⟨A, c', e1, _, hr⟩ := rs
    have hne : xs ≠ [] := by intro q; subst q; simp at hc
    obtain ⟨b, o, e2, hj⟩ := hr hne
    have e3 : A = some ⟨c, 0, none⟩ := by injection e1 with q1; exact q1.symm
    rw [e3] at e2
    injection e2 with e2
    injection e2 with e4 e5
    subst e4; subst e5
    cases xs with
    | nil => exact hne rfl
    | cons x l =>
      obtain ⟨cs, r1, r2⟩ := hj 0 x rfl
      have hl := Rp.len r1
      have hp := Rp.pos (α := α)
      cases cs with
      | nil => simp at hl; omega
      | cons u us =>
        have := r2 0 u rfl
        rw [ob.free] at this; cases this
theorem Own.ne_obS1 {α : Type} [Rp α] {w : World} {h : Hp} {base e sz c T : Nat} {v : Value} {xs : List α} {ds : List Value} (own : Own w h base e sz v xs.length) (rs : RS h v xs) (ob : OB w h c T ds) : v.ownBlock ≠ some c := fun hc => own.ne_obS rs ob c (by simp [hc]) rfl
instance : Rp (List (ByteArray × Int)) := ⟨1, by decide, fun h x cs => ∃ v, cs = [v] ∧ RM (fun x : Int => .int .i64 x) h v x, by rintro h x cs ⟨v, rfl, _⟩; rfl, by rintro h x cs ⟨v, rfl, r⟩ u hu; simp at hu; subst hu; obtain ⟨b, es, rfl, _⟩ := r; rfl, fun le ⟨v, e, r⟩ => ⟨v, e, r.mono le⟩⟩
section
variable {P : Program} {E : Env} {w : World} {d : Option Tmp} {ty : TypeId} {ps : String} {af : Array Edge} {g : Option (Nat × Bool)} {x : Operand} {t u c : TypeId} {v : Value}
theorem ov_eqlHN (hx : ev E x = some (.iface c v)) (ht : P.underlying t = some (.interface (P.methodsAt t))) : OV P ⟨d, .binOp .eql t x (.const .nilIface) u, ty, ps, af, g⟩ E w (.bool false) w := fun n a ha => by
  have hk : a.eval (.const .nilIface) = .nilIface := rfl
  simp [execOp, ha.ev hx, hk, eqGuard, run_eql_held_nil w t c v ht]
theorem ov_eqlNN (hx : ev E x = some .nilIface) (ht : P.underlying t = some (.interface (P.methodsAt t))) : OV P ⟨d, .binOp .eql t x (.const .nilIface) u, ty, ps, af, g⟩ E w (.bool true) w := fun n a ha => by
  have hk : a.eval (.const .nilIface) = .nilIface := rfl
  simp [execOp, ha.ev hx, hk, eqGuard, run_eql_nil_nil w t ht]
theorem ov_assertT (hx : ev E x = some (.iface c v)) (ht : tConc P c = true) : OV P ⟨d, .typeAssert x t c true, ty, ps, af, g⟩ E w (.tuple #[v, .bool true]) w := fun n a ha => by
  unfold tConc at ht
  split at ht
  · cases ht
  · rename_i k hk hu
    simp only [execOp, ha.ev hx, Instr.typeAssert, Sem.run_bind, run_underlying hu, Result.andThen_ok]
    cases k <;> first | exact absurd rfl (hk _) | simp
  · cases ht
end
end Go.Proofs.YtkodnhngllfemaaGreatDoor
