import Derived.Test.YtkodnhngllfemaaGreatDoorB15
set_option linter.unusedVariables false
set_option linter.unusedSimpArgs false
namespace Go.Proofs.YtkodnhngllfemaaGreatDoor
open Go
def Z6v {ε δ α β : Type} (x : Except ε α) (g : ε → δ) (f : α → Option (Except δ β)) : Option (Except δ β) := match x with
  | .error t => some (.error (g t))
  | .ok a => f a
theorem Z01 {ε δ α β : Type} {t : ε} {g : ε → δ} {f : α → Option (Except δ β)} {r : Except δ β} (h : Z6v (.error t) g f = some r) : .error (g t) = r := Option.some.inj h
theorem Z0j {ε δ α β : Type} {a : α} {g : ε → δ} {f : α → Option (Except δ β)} {r : Except δ β} (h : Z6v (.ok a) g f = some r) : f a = some r := h
def Z8l (T : TypeId) (e a : Int) (ch : List PanicEntry) : Prop := ch = [{ v := .iface T (.agg #[.int .i64 e, .int .i64 a]), recovered := false }]
section
variable {P : Program} {n : NS} {ops : Array Oper} {Q : Exit → Act → World → Prop} {E : Env} {w : World} {rest : List Oper} {d : Nat} {o : Oper} {f : FuncId} {args : Array Value} {K : List PanicEntry → World → Prop}
theorem Z0i (h : (o.dst, Nat.blt d n, Z8f ops E o) = (some d, true, some true)) (ho : OC P o E w f args)
    (hc : Calls P f args w fun e w1 => ∃ ch, e = .panicked ch ∧ K ch w1) (k : ∀ ch w1, K ch w1 → WQ n Q (.panic ch) E w1) : WL P n ops Q (o :: rest) E w :=
  WL.callP (congrArg Prod.fst h) (congrArg (·.2.1) h) (congrArg (·.2.2) h) ho hc (fun w1 h => by obtain ⟨_, h, _⟩ := h; cases h) (fun v w1 h => by obtain ⟨_, h, _⟩ := h; cases h) (fun ch w1 h => by obtain ⟨_, h, h2⟩ := h; cases h; exact k _ _ h2)
theorem WL.panic {v : Value} (hg : Z8f ops E o = some true) (hr : ∀ m a, At m E a → (execOp a.eval o).run P w = .halt (.panic v) w) (k : WQ n Q (.panic [{ v, recovered := false }]) E w) : WL P n ops Q (o :: rest) E w := fun a ha => by
  refine Z6k (Z6e ha hg) ?_
  unfold Oper.wp
  rw [hr n a ha, Oper.upon_panic]
  exact k a ha
end
end Go.Proofs.YtkodnhngllfemaaGreatDoor
