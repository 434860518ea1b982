import Derived.Test.YtkodnhngllfemaaGreatDoorM3
set_option linter.unusedVariables false
set_option linter.unusedSimpArgs false
namespace Go.Proofs.YtkodnhngllfemaaGreatDoor
open Go
def EqD (f : Nat → Option Bool) (P : Prop) : Prop := (P → Ev f true) ∧ (¬ P → Ev f false)
def Thru (f : Nat → Option Bool) (P : Prop) (c : Nat → Option Bool) : Prop := (P → ∀ R, Ev c R → Ev f R) ∧ (¬ P → Ev f false)
theorem EqD.of_iff {f : Nat → Option Bool} {P Q : Prop} (h : EqD f P) (e : P ↔ Q) : EqD f Q := ⟨fun q => h.1 (e.2 q), fun q => h.2 fun p => q (e.1 p)⟩
theorem EqD.succ {f g : Nat → Option Bool} {P : Prop} (h : EqD f P) (e : ∀ k, g (k + 1) = f k) : EqD g P :=
  ⟨fun p => Ev.succ ((h.1 p).of_eq e), fun p => Ev.succ ((h.2 p).of_eq e)⟩
theorem EqD.of_eq {f g : Nat → Option Bool} {P : Prop} (h : EqD f P) (e : ∀ k, g k = f k) : EqD g P := ⟨fun p => (h.1 p).of_eq e, fun p => (h.2 p).of_eq e⟩
theorem Thru.succ {f g c : Nat → Option Bool} {P : Prop} (h : Thru f P c) (e : ∀ k, g (k + 1) = f k) : Thru g P c :=
  ⟨fun p R hR => Ev.succ ((h.1 p R hR).of_eq e), fun p => Ev.succ ((h.2 p).of_eq e)⟩
theorem Thru.of_iff {f c : Nat → Option Bool} {P Q : Prop} (h : Thru f P c) (e : P ↔ Q) : Thru f Q c := ⟨fun q => h.1 (e.2 q), fun q => h.2 fun p => q (e.1 p)⟩
theorem Thru.id (c : Nat → Option Bool) : Thru c True c := ⟨fun _ _ h => h, fun h => absurd trivial h⟩
theorem EqD.int (a b : Int) : EqD (fun _ => some (a == b)) (a = b) := ⟨fun h => Ev.now fun _ => by rw [beq_t h], fun h => Ev.now fun _ => by rw [beq_f h]⟩
theorem EqD.str (a b : ByteArray) : EqD (fun _ => some (bEq a b)) (a = b) := ⟨fun h => Ev.now fun _ => by rw [bEq_of h], fun h => Ev.now fun _ => by rw [bEq_f h]⟩
theorem EqD.bool (a b : Bool) : EqD (fun _ => some (a == b)) (a = b) := by cases a <;> cases b <;> exact ⟨fun h => by first | (cases h; done) | exact Ev.now fun _ => rfl, fun h => by first | exact Ev.now fun _ => rfl | exact absurd rfl h⟩
theorem EqD.and {p q : Nat → Option Bool} {P Q : Prop} (h1 : EqD p P) (h2 : EqD q Q) : EqD (fun k => (p k).bind fun r => bif r then q k else some false) (P ∧ Q) := by
  by_cases hp : P
  · have e := h1.1 hp
    exact ⟨fun h => Ev.bind (a := true) (g := fun k r => bif r then q k else some false) e (h2.1 h.2), fun h => Ev.bind (a := true) (g := fun k r => bif r then q k else some false) e (h2.2 fun hq => h ⟨hp, hq⟩)⟩
  · exact ⟨fun h => absurd h.1 hp, fun _ => Ev.bind (a := false) (g := fun k r => bif r then q k else some false) (h1.2 hp) (Ev.now fun _ => rfl)⟩
theorem EqD.back {p : Nat → Option Bool} {P : Prop} (h : EqD p P) : EqD (fun k => (p k).bind fun r => some r) P := h.of_eq fun k => by cases p k <;> rfl
theorem Thru.bind {p q c : Nat → Option Bool} {P Q : Prop} (h1 : EqD p P) (h2 : Thru q Q c) : Thru (fun k => (p k).bind fun r => bif !r then some false else q k) (P ∧ Q) c := by
  by_cases hp : P
  · have e := h1.1 hp
    exact ⟨fun h R hR => Ev.bind (a := true) (g := fun k r => bif !r then some false else q k) e (h2.1 h.2 R hR), fun h => Ev.bind (a := true) (g := fun k r => bif !r then some false else q k) e (h2.2 fun hq => h ⟨hp, hq⟩)⟩
  · exact ⟨fun h => absurd h.1 hp, fun _ => Ev.bind (a := false) (g := fun k r => bif !r then some false else q k) (h1.2 hp) (Ev.now fun _ => rfl)⟩
theorem eq_loop {α : Type} {xs ys : List α} {L : Nat → Nat → Option Bool} {c : Nat → Option Bool} (hl : xs.length = ys.length) (hend : ∀ R, Ev c R → Ev (L xs.length) R)
    (hstep : ∀ i x y, xs[i]? = some x → ys[i]? = some y → Thru (L i) (x = y) (L (i + 1))) : Thru (L 0) (xs = ys) c := by
  have main : ∀ n i, i + n = xs.length → Thru (L i) (xs.drop i = ys.drop i) c := by
    intro n
    induction n with
    | zero =>
      intro i hi
      have h1 : xs.drop i = [] := List.drop_eq_nil_of_le (by omega)
      have h2 : ys.drop i = [] := List.drop_eq_nil_of_le (by omega)
      rw [h1, h2]
      have : i = xs.length := by omega
      subst this
      exact ⟨fun _ => hend, fun h => absurd rfl h⟩
    | succ n ih =>
      intro i hi
      have h1 : i < xs.length := by omega
      have h2 : i < ys.length := by omega
      have hs := hstep i xs[i] ys[i] (List.getElem?_eq_getElem h1) (List.getElem?_eq_getElem h2)
      have hn := ih (i + 1) (by omega)
      rw [List.drop_eq_getElem_cons h1, List.drop_eq_getElem_cons h2]
      refine ⟨fun h R hR => ?_, fun h => ?_⟩
      · obtain ⟨a, b⟩ := List.cons.inj h
        exact hs.1 a R (hn.1 b R hR)
      · by_cases he : xs[i] = ys[i]
        · exact hs.1 he _ (hn.2 fun hd => h (by rw [he, hd]))
        · exact hs.2 he
  exact main xs.length 0 (by omega)
theorem neq_f {a b : Nat} (h : a = b) : ((a : Int) != (b : Int)) = false := by rw [h]; simp
theorem neq_t {a b : Nat} (h : a ≠ b) : ((a : Int) != (b : Int)) = true := by simp; omega
theorem eq_list {α : Type} {xs ys : List α} {F : Nat → Option Bool} {L : Int → Nat → Option Bool} {E : α → α → Nat → Option Bool} (hlen : xs.length < 9223372036854775808)
    (hF : ∀ k, F (k + 1) = bif ((xs.length : Int) != (ys.length : Int)) then some false else L 0 k)
    (hL : ∀ k i, L i (k + 1) = bif decide (i < (xs.length : Int)) then (at? xs i).bind fun x => (at? ys i).bind fun y => (E x y k).bind fun r => bif !r then some false else L (IntKind.i64.wrap (i + 1)) k else some true)
    (hE : ∀ x ∈ xs, ∀ y, EqD (E x y) (x = y)) : EqD F (xs = ys) := by
  by_cases hl : xs.length = ys.length
  · have key := eq_loop (L := fun i => L (i : Int)) (c := fun _ => some true) hl (fun R hR => by
      obtain rfl : R = true := (Ev.det hR (Ev.now (f := fun _ => some true) (r := true) fun _ => rfl))
      exact Ev.succ (Ev.now fun k => by rw [hL, dec_f (by omega)]; rfl)) (fun i x y hx hy => by
      have hi : i < xs.length := (List.getElem?_eq_some_iff.1 hx).1
      refine (((Thru.bind (hE x (List.mem_of_getElem? hx) y) (Thru.id (L ((i + 1 : Nat) : Int)))).of_iff (by rw [and_true])).succ (fun k => ?_))
      rw [hL, dec_t (by omega), at_of hx, at_of hy, wrap_succ (by omega)]
      rfl)
    have h0 : EqD (L 0) (xs = ys) := ⟨fun h => key.1 h _ (Ev.now fun _ => rfl), key.2⟩
    exact h0.succ fun k => by rw [hF, neq_f hl]; rfl
  · refine ⟨fun h => absurd (by rw [h]) hl, fun _ => Ev.succ (Ev.now fun k => by rw [hF, neq_t hl]; rfl)⟩
end Go.Proofs.YtkodnhngllfemaaGreatDoor
