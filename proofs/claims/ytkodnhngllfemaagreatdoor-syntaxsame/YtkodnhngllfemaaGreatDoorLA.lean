import Derived.Test.YtkodnhngllfemaaGreatDoorL0
set_option linter.unusedVariables false
set_option linter.unusedSimpArgs false
namespace Go.Proofs.YtkodnhngllfemaaGreatDoor
open Go
def Ev {α : Type} (f : Nat → Option α) (r : α) : Prop := ∃ K, ∀ k, K ≤ k → f k = some r
theorem Ev.now {α : Type} {f : Nat → Option α} {r : α} (h : ∀ k, f k = some r) : Ev f r := ⟨0, fun k _ => h k⟩
theorem Ev.bind {α β : Type} {f : Nat → Option α} {g : Nat → α → Option β} {a : α} {b : β} (h1 : Ev f a) (h2 : Ev (fun k => g k a) b) : Ev (fun k => (f k).bind (g k)) b := by
  obtain ⟨K1, h1⟩ := h1
  obtain ⟨K2, h2⟩ := h2
  refine ⟨max K1 K2, fun k hk => ?_⟩
  show (f k).bind (g k) = some b
  rw [h1 k (by omega)]
  exact h2 k (by omega)
theorem Ev.succ {α : Type} {f : Nat → Option α} {r : α} (h : Ev (fun k => f (k + 1)) r) : Ev f r := by
  obtain ⟨K, h⟩ := h
  refine ⟨K + 1, fun k hk => ?_⟩
  obtain ⟨j, rfl⟩ : ∃ j, k = j + 1 := ⟨k - 1, by omega⟩
  exact h j (by omega)
theorem Ev.of_eq {α : Type} {f g : Nat → Option α} {r : α} (h : Ev f r) (e : ∀ k, g k = f k) : Ev g r := by
  obtain ⟨K, h⟩ := h
  exact ⟨K, fun k hk => (e k).trans (h k hk)⟩
theorem Ev.val {α : Type} {f : Nat → Option α} {r r' : α} (h : Ev f r) (e : r = r') : Ev f r' := e ▸ h
theorem Ev.det {α : Type} {f : Nat → Option α} {r r' : α} (h : Ev f r) (h' : Ev f r') : r = r' := by
  obtain ⟨K, h⟩ := h
  obtain ⟨K', h'⟩ := h'
  exact Option.some.inj ((h (max K K') (by omega)).symm.trans (h' (max K K') (by omega)))
theorem at_mid {α : Type} (pre : List α) (x : α) (rest : List α) : at? (pre ++ x :: rest) (pre.length : Int) = some x := by
  unfold at?
  rw [if_pos (Int.natCast_nonneg _)]
  simp
theorem at_of {α : Type} {xs : List α} {i : Nat} {x : α} (h : xs[i]? = some x) : at? xs (i : Int) = some x := by
  unfold at?
  rw [if_pos (Int.natCast_nonneg _)]
  simpa using h
theorem wrap_succ {n : Nat} (h : n + 1 < 9223372036854775808) : IntKind.i64.wrap ((n : Int) + 1) = ((n + 1 : Nat) : Int) := by
  rw [w_i64_id (by omega) (by omega)]; rfl
theorem bEq_f {a b : ByteArray} (h : a ≠ b) : bEq a b = false := by rw [← Bool.not_eq_true, bEq_iff]; exact h
theorem Ex.ind {P : Ex → Prop} (h : ∀ op kind n s f args, (∀ a ∈ args, P a) → P (.mk op kind n s f args)) (x : Ex) : P x :=
  Ex.rec (motive_1 := P) (motive_2 := fun l => ∀ a ∈ l, P a) (fun op kind n s f args ih => h _ _ _ _ _ _ ih) (fun _ h => by cases h) (fun a l ha hl b hb => by
    rcases List.mem_cons.1 hb with rfl | hb
    · exact ha
    · exact hl b hb) x
theorem Ex.eta (x : Ex) : Ex.mk x.op x.kind x.n x.s x.f x.args = x := by cases x; rfl
mutual
def Ex.fits : Ex → Prop
  | .mk _ _ n s f args => (-9223372036854775808 ≤ n ∧ n ≤ 9223372036854775807) ∧ s.size < 9223372036854775808 ∧ f.size < 9223372036854775808 ∧ args.length < 9223372036854775808 ∧ fitsL args
def fitsL : List Ex → Prop
  | [] => True
  | x :: l => x.fits ∧ fitsL l
end
theorem fitsL_mem {l : List Ex} (h : fitsL l) : ∀ a ∈ l, a.fits := by
  induction l with
  | nil => intro a ha; cases ha
  | cons x l ih =>
    rw [fitsL] at h
    intro a ha
    rcases List.mem_cons.1 ha with rfl | ha
    · exact h.1
    · exact ih h.2 a ha
theorem St.eta (s : St) : St.mk s.op s.name s.index s.fields s.args s.n s.body s.arms s.other s.els = s := by cases s; rfl
theorem Ar.eta (a : Ar) : Ar.mk a.cond a.labels a.body = a := by cases a; rfl
theorem St.ind {P : St → Prop} {Q : Ar → Prop} (hs : ∀ op name index fields args n body arms other els, (∀ s ∈ body, P s) → (∀ a ∈ arms, Q a) → (∀ s ∈ other, P s) → P (.mk op name index fields args n body arms other els))
    (ha : ∀ cond labels body, (∀ s ∈ body, P s) → Q (.mk cond labels body)) (s : St) : P s :=
  St.rec (motive_1 := P) (motive_2 := Q) (motive_3 := fun l => ∀ s ∈ l, P s) (motive_4 := fun l => ∀ a ∈ l, Q a)
    (fun op name index fields args n body arms other els h1 h2 h3 => hs op name index fields args n body arms other els h1 h2 h3) (fun cond labels body h => ha cond labels body h)
    (fun _ h => by cases h) (fun a l h1 h2 b hb => by
      rcases List.mem_cons.1 hb with rfl | hb
      · exact h1
      · exact h2 b hb)
    (fun _ h => by cases h) (fun a l h1 h2 b hb => by
      rcases List.mem_cons.1 hb with rfl | hb
      · exact h1
      · exact h2 b hb) s
mutual
def St.fits : St → Prop
  | .mk _ name index fields args n body arms other _ => (-9223372036854775808 ≤ n ∧ n ≤ 9223372036854775807) ∧ name.size < 9223372036854775808 ∧ (index.length < 9223372036854775808 ∧ fitsL index) ∧ (fields.length < 9223372036854775808 ∧ ∀ x ∈ fields, x.size < 9223372036854775808) ∧
    (args.length < 9223372036854775808 ∧ fitsL args) ∧ (body.length < 9223372036854775808 ∧ fitsSL body) ∧ (arms.length < 9223372036854775808 ∧ fitsAL arms) ∧ (other.length < 9223372036854775808 ∧ fitsSL other)
def Ar.fits : Ar → Prop
  | .mk cond labels body => (cond.length < 9223372036854775808 ∧ fitsL cond) ∧ (labels.length < 9223372036854775808 ∧ ∀ x ∈ labels, -9223372036854775808 ≤ x ∧ x ≤ 9223372036854775807) ∧ (body.length < 9223372036854775808 ∧ fitsSL body)
def fitsSL : List St → Prop
  | [] => True
  | s :: l => s.fits ∧ fitsSL l
def fitsAL : List Ar → Prop
  | [] => True
  | a :: l => a.fits ∧ fitsAL l
end
theorem Z3v {l : List St} (h : fitsSL l) : ∀ a ∈ l, a.fits := by
  induction l with
  | nil => intro a ha; cases ha
  | cons x l ih =>
    rw [fitsSL] at h
    intro a ha
    rcases List.mem_cons.1 ha with rfl | ha
    · exact h.1
    · exact ih h.2 a ha
theorem fitsAL_mem {l : List Ar} (h : fitsAL l) : ∀ a ∈ l, a.fits := by
  induction l with
  | nil => intro a ha; cases ha
  | cons x l ih =>
    rw [fitsAL] at h
    intro a ha
    rcases List.mem_cons.1 ha with rfl | ha
    · exact h.1
    · exact ih h.2 a ha
end Go.Proofs.YtkodnhngllfemaaGreatDoor
