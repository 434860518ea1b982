import Derived.Test.YtkodnhngllfemaaGreatDoorB17
set_option linter.unusedVariables false
set_option linter.unusedSimpArgs false
namespace Go.Proofs.YtkodnhngllfemaaGreatDoor
open Go
section
variable {P : Program} {n : NS} {ops : Array Oper} {Q : Exit → Act → World → Prop} {E : Env} {w : World} {h : Hp}
def WA (P : Program) (n : NS) (ops : Array Oper) (Q : Exit → Act → World → Prop) (fuel : Nat) (L : Array Bool) (E : Env) (w : World) : Prop := ∀ a, At n E a → wpAny P .any ops Q fuel L a w
theorem wpOp_of_list {i : Nat} {o : Oper} {N : Act → World → Prop} {a : Act} (ho : ops[i]? = some o) (hh : wpList P ops (Exit.then N Q) [o] a w) : wpOp P ops Q i N a w := by
  unfold wpOp
  rw [ho]
  simp only [wpList] at hh
  by_cases hw : Region.wanted o (yielded ops a.tmps) = true
  · rw [if_pos hw] at hh
    simp only [hw, if_true]
    rcases hh with hh | ⟨h1, h2⟩
    · exact .inl hh
    · exact .inr ⟨h1, h2⟩
  · rw [if_neg hw] at hh
    simp only [hw, if_false, Bool.false_eq_true]
    exact hh
theorem WC.drawnA {id : Nat} (hm : P.follows .mixedOrders = true) (hs : Sub h w) (k : ∀ w1, Stp [] w h w1 h → WA P n ops Q ops.size (Array.replicate ops.size false) E w1) : WC P n (.region id ops true) Q E w := fun a ha =>
  wp_region_any hm (k _ (Stp.drew hs _) a ha)
theorem WA.fin {fuel : Nat} {L : Array Bool} (hr : Region.ready .any ops L = []) (k : WQ n Q .normal E w) : WA P n ops Q fuel L E w := fun a ha => by
  cases fuel with
  | zero => exact ⟨hr, k a ha⟩
  | succ f => exact ⟨fun _ => k a ha, fun i hi => by rw [hr] at hi; cases hi⟩
theorem WA.one {fuel i : Nat} {L : Array Bool} {o : Oper} (hr : Region.ready .any ops L = [i]) (ho : ops[i]? = some o) (k : WL P n ops (Exit.then (wpAny P .any ops Q fuel (L.setIfInBounds i true)) Q) [o] E w) : WA P n ops Q (fuel + 1) L E w := fun a ha =>
  ⟨fun hc => (by rw [hr] at hc; cases hc), fun j hj => by rw [hr, List.mem_singleton] at hj; subst hj; exact wpOp_of_list ho (k a ha)⟩
theorem WA.two {fuel i j : Nat} {L : Array Bool} {o p : Oper} (hr : Region.ready .any ops L = [i, j]) (ho : ops[i]? = some o) (hp : ops[j]? = some p) (k : WL P n ops (Exit.then (wpAny P .any ops Q fuel (L.setIfInBounds i true)) Q) [o] E w)
    (k2 : WL P n ops (Exit.then (wpAny P .any ops Q fuel (L.setIfInBounds j true)) Q) [p] E w) : WA P n ops Q (fuel + 1) L E w := fun a ha =>
  ⟨fun hc => (by rw [hr] at hc; cases hc), fun q hq => by
    rw [hr] at hq
    rcases List.mem_cons.1 hq with rfl | hq
    · exact wpOp_of_list ho (k a ha)
    · rw [List.mem_singleton] at hq; subst hq; exact wpOp_of_list hp (k2 a ha)⟩
theorem Z1f {fuel : Nat} {L : Array Bool} (k : WA P n ops Q fuel L E w) : WQ n (Exit.then (wpAny P .any ops Q fuel L) Q) .normal E w := k
theorem WQ.anyPanic {fuel : Nat} {L : Array Bool} {ch : List PanicEntry} (k : WQ n Q (.panic ch) E w) : WQ n (Exit.then (wpAny P .any ops Q fuel L) Q) (.panic ch) E w := k
end
end Go.Proofs.YtkodnhngllfemaaGreatDoor
