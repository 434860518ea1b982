import Derived.Test.YtkodnhngllfemaaGreatDoorB14
set_option linter.unusedVariables false
set_option linter.unusedSimpArgs false
namespace Go.Proofs.YtkodnhngllfemaaGreatDoor
open Go
abbrev pt (b o : Nat) : Value := .pointer (some ⟨b, o, none⟩)
abbrev vi (n : Int) : Value := .int .i64 n
abbrev sl (b o n c : Nat) : Value := .slice (some ⟨b, o, none⟩) n c
section
variable {P : Program} {n : NS} {ops : Array Oper} {Q : Exit → Act → World → Prop} {E : Env} {w : World} {α : Type} {X Y : Option α} {r : α} {b : Bool}
theorem Z17 {c : Operand} {x y : Code} (HF : (bif b then X else Y) = some r) (hc : ev E c = some (.bool b)) (kt : X = some r → WC P n x Q E w) (kf : Y = some r → WC P n y Q E w) : WC P n (.cond c x y) Q E w :=
  WC.cond hc (fun hb => kt (bif_t hb HF)) (fun hb => kf (bif_f hb HF))
theorem Z3g {l : List Oper} (t : Nat) (HF : (bif b then X else Y) = some r) (hv : lk E t = some (.bool b)) (kt : X = some r → WL P n ops Q l ((t, .bool true) :: E) w) (kf : Y = some r → WL P n ops Q l ((t, .bool false) :: E) w) : WL P n ops Q l E w :=
  WL.split t hv (fun hb => kt (bif_t hb HF)) (fun hb => kf (bif_f hb HF))
variable {w' : World} {rest : List Oper} {d : Nat} {dd : Option Tmp} {v : Value} {ty : TypeId} {ps : String} {af : Array Edge} {g : Option (Nat × Bool)}
theorem Wv {o : Oper} (h : (o.dst, Nat.blt d n, Z8f ops E o) = (some d, true, some true)) (ho : OV P o E w v w') (k : WL P n ops Q rest ((d, v) :: E) w') : WL P n ops Q (o :: rest) E w :=
  WL.val (congrArg Prod.fst h) (congrArg (·.2.1) h) (congrArg (·.2.2) h) ho k
theorem Wm {x : Operand} (h : (dd, Nat.blt d n, Z8f ops E ⟨dd, .move x, ty, ps, af, g⟩) = (some d, true, some true)) (hx : ev E x = some v) (k : WL P n ops Q rest ((d, v) :: E) w) : WL P n ops Q (⟨dd, .move x, ty, ps, af, g⟩ :: rest) E w := Wv h (Zu hx) k
theorem Wa {x : Operand} (h : (dd, Nat.blt d n, Z8f ops E ⟨dd, .assign x, ty, ps, af, g⟩) = (some d, true, some true)) (hx : ev E x = some v) (k : WL P n ops Q rest ((d, v) :: E) w) : WL P n ops Q (⟨dd, .assign x, ty, ps, af, g⟩ :: rest) E w := Wv h (ov_assign hx) k
theorem Wp {o : Oper} (h : (o.dst, Nat.blt d n, Z8f ops E o) = (some d, true, some false)) (k : WL P n ops Q rest ((d, undef) :: E) w) : WL P n ops Q (o :: rest) E w :=
  WL.pass (congrArg Prod.fst h) (congrArg (·.2.1) h) (congrArg (·.2.2) h) k
theorem Wc {o : Oper} {f : FuncId} {args : Array Value} {K : Value → World → Prop} (h : (o.dst, Nat.blt d n, Z8f ops E o) = (some d, true, some true)) (ho : OC P o E w f args)
    (hc : Calls P f args w fun e w1 => ∃ v, e = .returned v ∧ K v w1) (k : ∀ v w1, K v w1 → WL P n ops Q rest ((d, v) :: E) w1) : WL P n ops Q (o :: rest) E w :=
  WL.call (congrArg Prod.fst h) (congrArg (·.2.1) h) (congrArg (·.2.2) h) ho hc k
end
end Go.Proofs.YtkodnhngllfemaaGreatDoor
