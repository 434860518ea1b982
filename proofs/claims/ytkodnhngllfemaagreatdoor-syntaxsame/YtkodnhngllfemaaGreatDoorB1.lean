import Derived.WalkKit
import Derived.KernelRfl
import Derived.Deep.Quiet
set_option linter.unusedVariables false
set_option linter.unusedSimpArgs false
namespace Go.Proofs.YtkodnhngllfemaaGreatDoor
open Go
abbrev Env := List (Nat × Value)
def lk : Env → Nat → Option Value
  | [], _ => none
  | (t, v) :: r, x => bif Nat.beq t x then some v else lk r x
def ev (E : Env) : Operand → Option Value
  | .tmp t => lk E t
  | .const v => some v
  | .global g => some (.pointer (some ⟨g, 0, none⟩))
  | .func f => some (.func (.func f) #[] #[])
structure NS where
  n : Nat
  ds : List Deferred
instance (k : Nat) : OfNat NS k := ⟨⟨k, []⟩⟩
instance : Coe NS Nat := ⟨NS.n⟩
structure At (n : NS) (E : Env) (a : Act) : Prop where
  defers : a.defers = n.ds
  size : a.tmps.size = n.n
  slot : ∀ t v, lk E t = some v → a.tmps.getD t undef = v
theorem At.ev {n : NS} {E : Env} {a : Act} (h : At n E a) {x : Operand} {v : Value} (he : ev E x = some v) : a.eval x = v := by
  cases x with
  | tmp t => exact h.slot t v he
  | const u => simpa [YtkodnhngllfemaaGreatDoor.ev, Act.eval] using he
  | global g => simpa [YtkodnhngllfemaaGreatDoor.ev, Act.eval] using he
  | func f => simpa [YtkodnhngllfemaaGreatDoor.ev, Act.eval] using he
theorem At.put {n : NS} {E : Env} {a : Act} (h : At n E a) {d : Nat} (hd : d < n.n) (v : Value) : At n ((d, v) :: E) (a.put (some d) v) := by
  refine ⟨h.defers, by simp [Act.put, h.size], fun t u ht => ?_⟩
  simp only [Act.put]
  simp only [lk] at ht
  by_cases e : d = t
  · subst e
    have : Nat.beq d d = true := Nat.beq_refl d
    rw [this] at ht
    simp at ht
    subst ht
    simp [Array.getD_eq_getD_getElem?, Array.getElem?_setIfInBounds, h.size, hd]
  · have : Nat.beq d t = false := by
      exact Bool.eq_false_iff.2 fun h => e (Nat.eq_of_beq_eq_true h)
    rw [this] at ht
    have := h.slot t u (by simpa using ht)
    rw [← this]
    simp [Array.getD_eq_getD_getElem?, Array.getElem?_setIfInBounds, e]
theorem At.sub {n : NS} {E E' : Env} {a : Act} (h : At n E a) (hs : ∀ t v, lk E' t = some v → lk E t = some v) : At n E' a :=
  ⟨h.defers, h.size, fun t v ht => h.slot t v (hs t v ht)⟩
def keep (ks : List Nat) (E : Env) : Env := E.filter fun p => ks.any (Nat.beq p.1)
theorem lk_keep (ks : List Nat) (E : Env) (t : Nat) (v : Value) (h : lk (keep ks E) t = some v) : lk E t = some v := by
  induction E with
  | nil => simp [keep, lk] at h
  | cons p E ih =>
    obtain ⟨d, u⟩ := p
    by_cases hk : ks.any (Nat.beq d) = true
    · have : keep ks ((d, u) :: E) = (d, u) :: keep ks E := by simp [keep, hk]
      rw [this] at h
      simp only [lk] at h ⊢
      cases hb : Nat.beq d t with
      | true => rw [hb] at h; simpa using h
      | false => rw [hb] at h; simpa using ih (by simpa using h)
    · have : keep ks ((d, u) :: E) = keep ks E := by simp [keep, hk]
      rw [this] at h
      have := ih h
      simp only [lk]
      cases hb : Nat.beq d t with
      | true =>
        have hb2 := Nat.eq_of_beq_eq_true hb
        subst hb2
        exfalso
        apply hk
        clear ih this
        -- the slot d is found in the kept part: so d is kept
        have key : ∀ (F : Env), lk (keep ks F) d = some v → ks.any (Nat.beq d) = true := by
          intro F
          induction F with
          | nil => intro h; simp [keep, lk] at h
          | cons q F ihF =>
            obtain ⟨d', u'⟩ := q
            intro h
            by_cases hk' : ks.any (Nat.beq d') = true
            · have e1 : keep ks ((d', u') :: F) = (d', u') :: keep ks F := by simp [keep, hk']
              rw [e1] at h
              simp only [lk] at h
              cases hb' : Nat.beq d' d with
              | true => have hb2 := Nat.eq_of_beq_eq_true hb'; subst hb2; exact hk'
              | false => rw [hb'] at h; exact ihF (by simpa using h)
            · have e1 : keep ks ((d', u') :: F) = keep ks F := by simp [keep, hk']
              rw [e1] at h
              exact ihF h
        exact key E h
      | false => simpa using this
def WL (P : Program) (n : NS) (ops : Array Oper) (Q : Exit → Act → World → Prop) (l : List Oper) (E : Env) (w : World) : Prop := ∀ a, At n E a → wpList P ops Q l a w
def WC (P : Program) (n : NS) (c : Code) (Q : Exit → Act → World → Prop) (E : Env) (w : World) : Prop := ∀ a, At n E a → c.wp P Q a w
def WQ (n : NS) (Q : Exit → Act → World → Prop) (e : Exit) (E : Env) (w : World) : Prop := ∀ a, At n E a → Q e a w
section
variable {P : Program} {n : NS} {ops : Array Oper} {Q : Exit → Act → World → Prop} {E : Env} {w w' : World}
theorem WC.keep {c : Code} (ks : List Nat) (h : WC P n c Q (keep ks E) w) : WC P n c Q E w := fun a ha => h a (ha.sub (lk_keep ks E))
theorem WC.sub {c : Code} {E' : Env} (hs : ∀ t v, lk E' t = some v → lk E t = some v) (h : WC P n c Q E' w) : WC P n c Q E w := fun a ha => h a (ha.sub hs)
theorem Zb {x y : Code} (h : WC P n x (Exit.then (y.wp P Q) Q) E w) : WC P n (.seq x y) Q E w := fun a ha => wp_seq (h a ha)
theorem Zm (h : WQ n Q .normal E w) : WC P n .skip Q E w := fun a ha => wp_skip (h a ha)
theorem Z00 (h : WQ n Q .ret E w) : WC P n .ret Q E w := fun a ha => wp_ret (h a ha)
theorem Z4x {id : Nat} (h : WQ n Q (.exit id) E w) : WC P n (.exit id) Q E w := fun a ha => wp_exit (h a ha)
theorem Z0p {id : Nat} {c : Code} (h : WC P n c (Exit.inBlock id Q) E w) : WC P n (.block id c) Q E w := fun a ha => wp_block (h a ha)
theorem WC.cond {c : Operand} {x y : Code} {b : Bool} (hc : ev E c = some (.bool b)) (ht : b = true → WC P n x Q E w) (hf : b = false → WC P n y Q E w) : WC P n (.cond c x y) Q E w :=
  fun a ha => wp_cond_split (ha.ev hc) (fun e => ht e a ha) (fun e => hf e a ha)
theorem WC.condT {c : Operand} {x y : Code} (hc : ev E c = some (.bool true)) (ht : WC P n x Q E w) : WC P n (.cond c x y) Q E w :=
  fun a ha => wp_cond_true (ha.ev hc) (ht a ha)
theorem WC.condF {c : Operand} {x y : Code} (hc : ev E c = some (.bool false)) (hf : WC P n y Q E w) : WC P n (.cond c x y) Q E w :=
  fun a ha => wp_cond_false (ha.ev hc) (hf a ha)
def LoopWP (P : Program) (c : Code) (Q : Exit → Act → World → Prop) (a : Act) (w : World) : Prop :=
  ∀ (b : Frame) (k : List Item) (cs : List Frame), ∃ e a' w', Q e a' w' ∧ Arrives P (lone (b.at a (.code c :: .inLoop c :: k)) cs w) b k cs e a' w'
theorem wp_of_loopWP {c : Code} {a : Act} (h : LoopWP P c Q a w) : (Code.loop c).wp P Q a w :=
  fun b k cs => let ⟨e, a', w', q, r⟩ := h b k cs; ⟨e, a', w', q, .of_steps (.one step_loop) r⟩
theorem loopWP_round {c : Code} {a : Act} (h : c.wp P (Exit.then (LoopWP P c Q) Q) a w) : LoopWP P c Q a w := by
  intro b k cs
  obtain ⟨e, a₁, w₁, hq, harr⟩ := h b (.inLoop c :: k) cs
  cases e with
  | normal =>
    obtain ⟨e₂, a₂, w₂, hq₂, harr₂⟩ := hq b k cs
    exact ⟨e₂, a₂, w₂, hq₂, .of_steps (Steps.trans harr (.one step_inLoop)) harr₂⟩
  | exit id => exact ⟨_, a₁, w₁, hq, .pass (x := .inLoop c) rfl (fun _ _ => .inl (by simp)) harr⟩
  | goto l => exact ⟨_, a₁, w₁, hq, .pass (x := .inLoop c) rfl (fun _ _ => .inl (by simp)) harr⟩
  | ret => exact ⟨_, a₁, w₁, hq, .pass (x := .inLoop c) rfl (fun _ _ => .inl (by simp)) harr⟩
  | panic ch => exact ⟨_, a₁, w₁, hq, .pass (x := .inLoop c) rfl (fun _ _ => .inl (by simp)) harr⟩
  | outgrown => exact ⟨_, a₁, w₁, hq, .pass (x := .inLoop c) rfl (fun _ _ => .inl (by simp)) harr⟩
def WP (P : Program) (n : NS) (c : Code) (Q : Exit → Act → World → Prop) (E : Env) (w : World) : Prop := ∀ a, At n E a → LoopWP P c Q a w
theorem Z4m {c : Code} (h : WP P n c Q E w) : WC P n (.loop c) Q E w := fun a ha => wp_of_loopWP (h a ha)
theorem WP.round {c : Code} (h : WC P n c (Exit.then (LoopWP P c Q) Q) E w) : WP P n c Q E w := fun a ha => loopWP_round (h a ha)
theorem WP.sub {c : Code} {E' : Env} (hs : ∀ t v, lk E' t = some v → lk E t = some v) (h : WP P n c Q E' w) : WP P n c Q E w := fun a ha => h a (ha.sub hs)
theorem WP.keep {c : Code} (ks : List Nat) (h : WP P n c Q (keep ks E) w) : WP P n c Q E w := fun a ha => h a (ha.sub (lk_keep ks E))
theorem Z6 {y : Code} (h : WC P n y Q E w) : WQ n (Exit.then (y.wp P Q) Q) .normal E w := h
theorem Z2c {c : Code} (h : WP P n c Q E w) : WQ n (Exit.then (LoopWP P c Q) Q) .normal E w := h
theorem Zi {K : Act → World → Prop} (h : WQ n Q .ret E w) : WQ n (Exit.then K Q) .ret E w := h
theorem Zz {K : Act → World → Prop} {id : Nat} (h : WQ n Q (.exit id) E w) : WQ n (Exit.then K Q) (.exit id) E w := h
theorem Zd {K : Act → World → Prop} {ch : List PanicEntry} (h : WQ n Q (.panic ch) E w) : WQ n (Exit.then K Q) (.panic ch) E w := h
theorem Z0a {id : Nat} (h : WQ n Q .normal E w) : WQ n (Exit.inBlock id Q) .normal E w := h
theorem Zy {id : Nat} (h : WQ n Q .ret E w) : WQ n (Exit.inBlock id Q) .ret E w := h
theorem Zr {id : Nat} {ch : List PanicEntry} (h : WQ n Q (.panic ch) E w) : WQ n (Exit.inBlock id Q) (.panic ch) E w := h
theorem Z1a {id : Nat} (h : WQ n Q .normal E w) : WQ n (Exit.inBlock id Q) (.exit id) E w := fun a ha => by
  show if id = id then _ else _
  rw [if_pos rfl]; exact h a ha
theorem WQ.sub {e : Exit} {E' : Env} (hs : ∀ t v, lk E' t = some v → lk E t = some v) (h : WQ n Q e E' w) : WQ n Q e E w := fun a ha => h a (ha.sub hs)
theorem Z1 {id : Nat} {ops : Array Oper} (h : WL P n ops Q ops.toList E w) : WC P n (.region id ops false) Q E w := fun a ha => wp_region_list (h a ha)
theorem Z7 (h : WQ n Q .normal E w) : WL P n ops Q [] E w := h
def Z8f (ops : Array Oper) (E : Env) (o : Oper) : Option Bool :=
  match o.guard with
  | none => some true
  | some (j, want) =>
    match ((ops[j]?).bind (·.dst)).bind (lk E ·) with
    | some (.bool b) => some (b == want)
    | some _ => some false
    | none => none
theorem Z6e {o : Oper} {g : Bool} {a : Act} (ha : At n E a) (h : Z8f ops E o = some g) : Region.wanted o (yielded ops a.tmps) = g := by
  unfold Z8f at h
  unfold Region.wanted
  split at h
  · rename_i hg; rw [hg]; simpa using h
  · rename_i j want hg
    rw [hg]
    simp only [yielded]
    cases hd : (ops[j]?).bind (·.dst) with
    | none => rw [hd] at h; simp at h
    | some d =>
      rw [hd] at h
      simp only [Option.bind_some] at h ⊢
      cases hl : lk E d with
      | none => rw [hl] at h; simp at h
      | some v =>
        rw [hl] at h
        have hs := ha.slot d v hl
        rw [Array.getD_eq_getD_getElem?] at hs
        cases hx : a.tmps[d]? with
        | none =>
          rw [hx] at hs
          simp only [Option.getD_none] at hs
          subst hs
          simp only [undef] at h
          simp at h
          subst h
          simp
        | some u =>
          rw [hx] at hs
          simp only [Option.getD_some] at hs
          subst hs
          cases u <;> simp_all
theorem Z6k {o : Oper} {rest : List Oper} {a : Act} (hw : Region.wanted o (yielded ops a.tmps) = true) (h : o.wp P a w (wpList P ops Q rest) Q) : wpList P ops Q (o :: rest) a w := by
  unfold wpList; rw [if_pos hw]; exact .inl h
theorem wpList_of_unwanted {o : Oper} {rest : List Oper} {a : Act} (hw : Region.wanted o (yielded ops a.tmps) = false) (h : wpList P ops Q rest (a.put o.dst undef) w) : wpList P ops Q (o :: rest) a w := by
  unfold wpList; rw [if_neg (by simp [hw])]; exact h
def OV (P : Program) (o : Oper) (E : Env) (w : World) (v : Value) (w' : World) : Prop := ∀ n a, At n E a → (execOp a.eval o).run P w = .ok (.value v) w'
def OU (P : Program) (o : Oper) (E : Env) (w : World) (w' : World) : Prop := ∀ n a, At n E a → (execOp a.eval o).run P w = .ok .skip w'
def OC (P : Program) (o : Oper) (E : Env) (w : World) (f : FuncId) (args : Array Value) : Prop := ∀ n a, At n E a → (execOp a.eval o).run P w = .ok (.enter f args) w
theorem WL.val {o : Oper} {rest : List Oper} {d : Nat} {v : Value} (hd : o.dst = some d) (hn : Nat.blt d n = true) (hg : Z8f ops E o = some true) (ho : OV P o E w v w')
    (k : WL P n ops Q rest ((d, v) :: E) w') : WL P n ops Q (o :: rest) E w := fun a ha => by
  refine Z6k (Z6e ha hg) ?_
  unfold Oper.wp
  rw [ho n a ha, Oper.upon_value, hd]
  exact k _ (ha.put (by simpa [Nat.blt_eq] using hn) v)
theorem WL.unit {o : Oper} {rest : List Oper} (hd : o.dst = none) (hg : Z8f ops E o = some true) (ho : OU P o E w w')
    (k : WL P n ops Q rest E w') : WL P n ops Q (o :: rest) E w := fun a ha => by
  refine Z6k (Z6e ha hg) ?_
  unfold Oper.wp
  rw [ho n a ha, Oper.upon_skip, hd]
  exact k _ ha
theorem WL.pass {o : Oper} {rest : List Oper} {d : Nat} (hd : o.dst = some d) (hn : Nat.blt d n = true) (hg : Z8f ops E o = some false)
    (k : WL P n ops Q rest ((d, undef) :: E) w) : WL P n ops Q (o :: rest) E w := fun a ha => by
  refine wpList_of_unwanted (Z6e ha hg) ?_
  rw [hd]
  exact k _ (ha.put (by simpa [Nat.blt_eq] using hn) _)
theorem WL.call {o : Oper} {rest : List Oper} {d : Nat} {f : FuncId} {args : Array Value} {K : Value → World → Prop} (hd : o.dst = some d) (hn : Nat.blt d n = true) (hg : Z8f ops E o = some true) (ho : OC P o E w f args)
    (hc : Calls P f args w fun e w1 => ∃ v, e = .returned v ∧ K v w1)
    (k : ∀ v w1, K v w1 → WL P n ops Q rest ((d, v) :: E) w1) : WL P n ops Q (o :: rest) E w := fun a ha => by
  refine Z6k (Z6e ha hg) ?_
  unfold Oper.wp
  rw [ho n a ha, Oper.upon_enter, hd]
  refine hc.mono ?_
  rintro e w1 ⟨v, rfl, hk⟩
  exact k v w1 hk _ (ha.put (by simpa [Nat.blt_eq] using hn) v)
theorem WL.callP {o : Oper} {rest : List Oper} {d : Nat} {f : FuncId} {args : Array Value} {R : Ending → World → Prop} (hd : o.dst = some d) (hn : Nat.blt d n = true) (hg : Z8f ops E o = some true) (ho : OC P o E w f args)
    (hc : Calls P f args w R) (hno : ∀ w1, ¬ R .outgrown w1)
    (k : ∀ v w1, R (.returned v) w1 → WL P n ops Q rest ((d, v) :: E) w1)
    (kp : ∀ ch w1, R (.panicked ch) w1 → WQ n Q (.panic ch) E w1) : WL P n ops Q (o :: rest) E w := fun a ha => by
  refine Z6k (Z6e ha hg) ?_
  unfold Oper.wp
  rw [ho n a ha, Oper.upon_enter, hd]
  refine hc.mono ?_
  intro e w1 hr
  cases e with
  | returned v => exact k v w1 hr _ (ha.put (by simpa [Nat.blt_eq] using hn) v)
  | panicked ch => exact kp ch w1 hr a ha
  | outgrown => exact (hno w1 hr).elim
theorem calls_of_WC {f : FuncId} {fn : Func} {c : Code} {args : Array Value} {R : Ending → World → Prop} (hf : P.funcs[f]? = some fn) (hb : fn.body = some c)
    (E : Env) (hE : ∀ t v, lk E t = some v → args[t]? = some v) (hn : args.size ≤ fn.ntmps) (h : WC P ⟨fn.ntmps, []⟩ c (bodyPost P fn R) E w) : Calls P f args w R := by
  refine calls_of_wp hf hb (h _ ⟨rfl, by simp; omega, fun t v ht => ?_⟩)
  have := hE t v ht
  rw [Array.getD_eq_getD_getElem?, Array.getElem?_append]
  split
  · rw [this]; rfl
  · rename_i hlt; rw [Array.getElem?_eq_none (by omega)] at this; cases this
theorem Zt {fn : Func} {t : Tmp} {R : Ending → World → Prop} {v : Value} (hr : fn.results = #[.tmp t]) (hv : lk E t = some v) (h : R (.returned v) w) (hd : n.ds = [] := by rfl) : WQ n (bodyPost P fn R) .ret E w := fun a ha =>
  bodyPost_ret (results_tmp hr _ _ _) (ha.defers.trans hd) (by rw [ha.slot t v hv]; exact h)
theorem WQ.ret0 {fn : Func} {R : Ending → World → Prop} (hr : fn.results = #[]) (h : R (.returned (.tuple #[])) w) (hd : n.ds = [] := by rfl) : WQ n (bodyPost P fn R) .ret E w := fun a ha =>
  bodyPost_ret (results_none hr _ _ _) (ha.defers.trans hd) h
theorem Zb0 {fn : Func} {R : Ending → World → Prop} (hr : fn.results = #[]) (h : R (.returned (.tuple #[])) w) (hd : n.ds = [] := by rfl) : WQ n (bodyPost P fn R) .normal E w := fun a ha =>
  bodyPost_end (results_none hr _ _ _) (ha.defers.trans hd) h
theorem WQ.ret2 {fn : Func} {t u : Tmp} {R : Ending → World → Prop} {v x : Value} (hr : fn.results = #[.tmp t, .tmp u]) (hv : lk E t = some v) (hx : lk E u = some x) (h : R (.returned (.tuple #[v, x])) w) (hd : n.ds = [] := by rfl) : WQ n (bodyPost P fn R) .ret E w := fun a ha =>
  bodyPost_ret (results_tmp2 hr _ _ _) (ha.defers.trans hd) (by rw [ha.slot t v hv, ha.slot u x hx]; exact h)
theorem Zp {fn : Func} {R : Ending → World → Prop} {ch : List PanicEntry} (h : R (.panicked ch) w) (hd : n.ds = [] := by rfl) : WQ n (bodyPost P fn R) (.panic ch) E w := fun a ha => ⟨(ha.defers.trans hd), h⟩
end
end Go.Proofs.YtkodnhngllfemaaGreatDoor
