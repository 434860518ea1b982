import Derived.Test.YtkodnhngllfemaaGreatDoorB8
set_option linter.unusedVariables false
set_option linter.unusedSimpArgs false
namespace Go.Proofs.YtkodnhngllfemaaGreatDoor
open Go
theorem Zx : ∀ u ∈ ([] : List Value), u.oneCell' = true := by simp
theorem Z5 {a : Value} {l : List Value} (h : a.oneCell' = true) (hl : ∀ u ∈ l, u.oneCell' = true) : ∀ u ∈ a :: l, u.oneCell' = true := by
  intro u hu; rcases List.mem_cons.1 hu with rfl | hu
  · exact h
  · exact hl u hu
section
variable {P : Program} {n : NS} {ops : Array Oper} {Q : Exit → Act → World → Prop} {E : Env} {w w1 : World} {h h1 : Hp} {a : Act} {d : Option Tmp} {dd : Nat} {ty : TypeId} {ps : String} {af : Array Edge} {g : Option (Nat × Bool)}
theorem Z6x {p : Prop} {b : Bool} (ht : b = true → p) (hf : b = false → p) : p := by cases b with | true => exact ht rfl | false => exact hf rfl
theorem Z0 (ha : At n E a) {t : Nat} {v : Value} (hv : a.tmps.getD t undef = v) : At n ((t, v) :: E) a := ⟨ha.defers, ha.size, fun u x hx => by
  simp only [lk] at hx
  cases hb : Nat.beq t u with
  | true =>
    rw [hb] at hx
    have := Nat.eq_of_beq_eq_true hb
    subst this
    simp at hx
    rw [hv, hx]
  | false => rw [hb] at hx; exact ha.slot u x (by simpa using hx)⟩
theorem Z7z {l : List Oper} (E : Env) (ha : At n E a) (k : WL P n ops Q l E w) : wpList P ops Q l a w := k a ha
theorem Zci {o : Oper} {w' : World} {b c : Bool} (ho : OV P o E w (.bool b) w') (e : b = c) : OV P o E w (.bool c) w' := by subst e; exact ho
variable {Φ : Nat → Value → World → Hp → Prop} {i : Nat} {o : Oper}
theorem Z3 {v : Value} (ha : At n E a) (hg : Z8f ops E o = some true) (ho : OV P o E w1 v w1) (hs : Sub h1 w1) (hΦ : Φ i v w1 h1) :
    Front1 P n ops Q Φ i o a w1 h1 := by
  refine .inl ⟨Z6e ha hg, ?_⟩
  unfold Oper.wp
  rw [ho n a ha, Oper.upon_value]
  exact ⟨v, h1, rfl, Stp.refl hs [], hΦ⟩
theorem Zv (ha : At n E a) (hg : Z8f ops E o = some false) (hΦ : Φ i undef w1 h1) :
    Front1 P n ops Q Φ i o a w1 h1 :=
  .inr ⟨Z6e ha hg, hΦ⟩
theorem Z2d {f : FuncId} {args : Array Value} {K : Value → World → Prop} (ha : At n E a) (hg : Z8f ops E o = some true) (ho : OC P o E w1 f args) (hc : Calls P f args w1 fun e w2 => ∃ v, e = .returned v ∧ K v w2)
    (k : ∀ v w2, K v w2 → ∃ v' h2, v' = v ∧ Stp [] w1 h1 w2 h2 ∧ Φ i v' w2 h2) :
    Front1 P n ops Q Φ i o a w1 h1 := by
  refine .inl ⟨Z6e ha hg, ?_⟩
  unfold Oper.wp
  rw [ho n a ha, Oper.upon_enter]
  refine hc.mono ?_
  rintro e w2 ⟨v, rfl, hk⟩
  obtain ⟨v', h2, rfl, s2, hp⟩ := k v w2 hk
  exact ⟨v', h2, rfl, s2, hp⟩
end
end Go.Proofs.YtkodnhngllfemaaGreatDoor
