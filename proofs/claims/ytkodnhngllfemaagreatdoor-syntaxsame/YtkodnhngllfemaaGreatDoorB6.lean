import Derived.Test.YtkodnhngllfemaaGreatDoorB5
set_option linter.unusedVariables false
set_option linter.unusedSimpArgs false
namespace Go.Proofs.YtkodnhngllfemaaGreatDoor
open Go
def entB (P : Program) (f : FuncId) : Bool := match P.funcs[f]? with
  | some fn => !(fn.name == "runtime.NumGoroutine") && fn.body.isSome
  | none => false
section
variable {P : Program} {n : NS} {ops : Array Oper} {Q : Exit → Act → World → Prop} {E : Env} {w w' : World} {h : Hp} {d : Option Tmp} {ty : TypeId} {ps : String} {af : Array Edge} {g : Option (Nat × Bool)} {ats : Array TypeId}
theorem Zb2 {f : FuncId} (he : entB P f = true) (args : Array Value) (w : World) : (callFunc f args).run P w = .ok (.enter f args) w := by
  unfold entB at he
  split at he
  · rename_i fn hf
    simp only [Bool.and_eq_true, Bool.not_eq_true'] at he
    obtain ⟨h1, h2⟩ := he
    have h3 : fn.body.isNone = false := by cases hb : fn.body <;> simp_all
    simp only [callFunc, Sem.run_bind, run_program, Result.andThen_ok, hf, h1, h3, Bool.false_eq_true, if_false, Sem.run_pure]
  · cases he
theorem Ze {f : FuncId} {xs : List Operand} {vs : List Value} (hv : xs.map (ev E) = vs.map some) (he : entB P f = true) : OC P ⟨d, .call ⟨.value (.func f), xs.toArray, ats⟩, ty, ps, af, g⟩ E w f vs.toArray := fun m a ha => by
  have := Zb2 (P := P) he vs.toArray w
  simp only [execOp, resolve, Act.eval, Deferred.ofValue, Sem.run_bind, Sem.run_pure, Result.andThen_ok, invoke, List.map_toArray, map_ev ha hv]
  simpa using this
theorem oc_val {f : FuncId} {x : Operand} {xs : List Operand} {vs caps : List Value} (hx : ev E x = some (.func (.func f) #[] caps.toArray)) (hv : xs.map (ev E) = vs.map some) (he : entB P f = true) : OC P ⟨d, .call ⟨.value x, xs.toArray, ats⟩, ty, ps, af, g⟩ E w f (vs ++ caps).toArray := fun m a ha => by
  have := Zb2 (P := P) he (vs ++ caps).toArray w
  simp only [execOp, resolve, ha.ev hx, Deferred.ofValue, Sem.run_bind, Sem.run_pure, Result.andThen_ok, invoke, List.map_toArray, map_ev ha hv]
  simpa using this
theorem calls_enter {f : FuncId} {fn : Func} {c : Code} {args : List Value} {R : Ending → World → Prop} (hf : P.funcs[f]? = some fn) (hb : fn.body = some c) (hnt : fn.ntmps = n.n)
    (E : Env) (hE : ∀ t v, lk E t = some v → args[t]? = some v) (hn : Nat.ble args.length n = true) (k : WC P n c (bodyPost P fn R) E w) (hds : n.ds = [] := by rfl) : Calls P f args.toArray w R := by
  obtain ⟨n, ds⟩ := n
  simp only at hnt hds
  subst hnt; subst hds
  exact calls_of_WC hf hb E (fun t v ht => by simpa using hE t v ht) (by simpa using Nat.le_of_ble_eq_true hn) k
def argE : Nat → List Value → Env
  | _, [] => []
  | i, v :: l => (i, v) :: argE (i + 1) l
theorem lk_argE (l : List Value) : ∀ (i t : Nat) (v : Value), lk (argE i l) t = some v → i ≤ t ∧ l[t - i]? = some v := by
  induction l with
  | nil => intro i t v h; simp [argE, lk] at h
  | cons a l ih =>
    intro i t v h
    simp only [argE, lk] at h
    cases hb : Nat.beq i t with
    | true =>
      rw [hb] at h
      have := Nat.eq_of_beq_eq_true hb
      subst this
      simpa using h
    | false =>
      rw [hb] at h
      obtain ⟨h1, h2⟩ := ih (i + 1) t v (by simpa using h)
      refine ⟨by omega, ?_⟩
      have e : t - i = (t - (i + 1)) + 1 := by omega
      rw [e]
      simpa using h2
theorem Z4j {f : FuncId} {fn : Func} {c : Code} {args : List Value} {R : Ending → World → Prop} (hf : P.funcs[f]? = some fn) (hb : fn.body = some c) (hnt : fn.ntmps = n.n) (hn : Nat.ble args.length n = true)
    (E : Env) (hE : argE 0 args = E) (k : WC P n c (bodyPost P fn R) E w) (hds : n.ds = [] := by rfl) : Calls P f args.toArray w R :=
  calls_enter hf hb hnt E (fun t v ht => by rw [← hE] at ht; simpa using (lk_argE args 0 t v ht).2) hn k hds
def sel : List Nat → Env → Env
  | [], _ => []
  | k :: ks, E => match lk E k with
    | some v => (k, v) :: sel ks E
    | none => sel ks E
theorem lk_sel (E : Env) (t : Nat) (v : Value) : ∀ ks : List Nat, lk (sel ks E) t = some v → lk E t = some v
  | [], h => by simp [sel, lk] at h
  | k :: ks, h => by
    simp only [sel] at h
    cases hk : lk E k with
    | none => rw [hk] at h; exact lk_sel E t v ks h
    | some u =>
      rw [hk] at h
      simp only [lk] at h
      cases hb : Nat.beq k t with
      | true =>
        rw [hb] at h
        have := Nat.eq_of_beq_eq_true hb
        subst this
        rw [hk]; simpa using h
      | false => rw [hb] at h; exact lk_sel E t v ks (by simpa using h)
theorem Z0g {c : Code} (ks : List Nat) (E' : Env) (hE : sel ks E = E') (k : WC P n c Q E' w) : WC P n c Q E w := fun a ha => k a (by rw [← hE]; exact ha.sub (fun t v ht => lk_sel E t v ks ht))
theorem Z7y {c : Code} (ks : List Nat) (E' : Env) (hE : sel ks E = E') (k : WP P n c Q E' w) : WP P n c Q E w := fun a ha => k a (by rw [← hE]; exact ha.sub (fun t v ht => lk_sel E t v ks ht))
theorem WL.to {l : List Oper} (ks : List Nat) (E' : Env) (hE : sel ks E = E') (k : WL P n ops Q l E' w) : WL P n ops Q l E w := fun a ha => k a (by rw [← hE]; exact ha.sub (fun t v ht => lk_sel E t v ks ht))
theorem WL.know {l : List Oper} (t : Nat) {v v' : Value} (hv : lk E t = some v) (e : v = v') (k : WL P n ops Q l ((t, v') :: E) w) : WL P n ops Q l E w := fun a ha => k a (ha.sub fun u x hx => by
  simp only [lk] at hx
  cases hb : Nat.beq t u with
  | true =>
    rw [hb] at hx
    have := Nat.eq_of_beq_eq_true hb
    subst this
    simp at hx
    rw [hv, e, hx]
  | false => rw [hb] at hx; simpa using hx)
theorem WL.split {l : List Oper} (t : Nat) {b : Bool} (hv : lk E t = some (.bool b)) (kt : b = true → WL P n ops Q l ((t, .bool true) :: E) w) (kf : b = false → WL P n ops Q l ((t, .bool false) :: E) w) : WL P n ops Q l E w := by
  cases b with
  | true => exact WL.know t hv rfl (kt rfl)
  | false => exact WL.know t hv rfl (kf rfl)
theorem Zeb {α : Type} [Rp α] {rest : List Oper} {dd : Nat} {x y : Operand} {t e base bytes : Nat} {zv v v2 : Value} {xs ys : List α} (hn : Nat.blt dd n = true) (hg : Z8f ops E ⟨some dd, .call ⟨.builtin .append, #[x, y], #[t, t]⟩, ty, ps, af, g⟩ = some true)
    (hx : ev E x = some v) (hy : ev E y = some v2) (ht : P.underlying t = some (.slice e)) (hsz : Zhb P e = some (Rp.sz α)) (hz : tZero P e = some zv) (hzs : zv.cells.size = Rp.sz α)
    (hby : tBytes P e = some bytes) (hb : Nat.ble bytes 1000 = true) (own : Own w h base e (Rp.sz α) v xs.length) (rs : RS h v xs) (rs2 : RS h v2 ys) (hlen : xs.length + ys.length < 1000000000) (hs : Sub h w) (hbase : base ≤ w.heap.size) (hbb : h.base ≤ base)
    (k : ∀ v' w1 h1, RS h1 v' (xs ++ ys) → Own w1 h1 base e (Rp.sz α) v' (xs ++ ys).length → Stp v.ownBlock.toList w h w1 h1 → (v'.ownBlock = v.ownBlock ∨ v'.ownBlock = some w.heap.size) → WL P n ops Q rest ((dd, v') :: E) w1) :
    WL P n ops Q (⟨some dd, .call ⟨.builtin .append, #[x, y], #[t, t]⟩, ty, ps, af, g⟩ :: rest) E w := by
  obtain ⟨v', w1, h1, hr, r1, r2, r3, r4⟩ := run_append (ty := ty) ht hsz hz hzs hby hb own rs rs2 hlen hs hbase hbb
  refine WL.val rfl hn hg (w' := w1) (v := v') (fun m a ha => ?_) (k v' w1 h1 r1 r2 r3 r4)
  simp only [execOp, resolve, Sem.run_bind, Sem.run_pure, Result.andThen_ok, invoke, builtin, List.map_toArray, List.map_cons, List.map_nil, ha.ev hx, ha.ev hy, hr]
end
theorem bif_t {α : Type} {b : Bool} {x y : Option α} {r : α} (hb : b = true) (h : (bif b then x else y) = some r) : x = some r := by subst hb; exact h
theorem bif_f {α : Type} {b : Bool} {x y : Option α} {r : α} (hb : b = false) (h : (bif b then x else y) = some r) : y = some r := by subst hb; exact h
theorem Zdu {α : Type} {c : Prop} [Decidable c] {x : Option α} {r : α} (h : (if c then x else none) = some r) : c ∧ x = some r := by
  by_cases hc : c
  · rw [if_pos hc] at h; exact ⟨hc, h⟩
  · rw [if_neg hc] at h; cases h
theorem Z8 {α β : Type} {x : Option α} {f : α → Option β} {r : β} (h : x.bind f = some r) : ∃ a, x = some a ∧ f a = some r := Option.bind_eq_some_iff.1 h
end Go.Proofs.YtkodnhngllfemaaGreatDoor
