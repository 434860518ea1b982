import Derived.Test.YtkodnhngllfemaaGreatDoorL1
set_option linter.unusedVariables false
set_option linter.unusedSimpArgs false
namespace Go.Proofs.YtkodnhngllfemaaGreatDoor
open Go
theorem Ex.ind {P : Ex → Prop} (h : ∀ op kind n s f args, (∀ a ∈ args, P a) → P (.mk op kind n s f args)) (x : Ex) : P x :=
  Ex.rec (motive_1 := P) (motive_2 := fun l => ∀ a ∈ l, P a) (fun op kind n s f args ih => h _ _ _ _ _ _ ih) (fun _ h => by cases h) (fun a l ha hl b hb => by
    rcases List.mem_cons.1 hb with rfl | hb
    · exact ha
    · exact hl b hb) x
theorem Ex.eta (x : Ex) : Ex.mk x.op x.kind x.n x.s x.f x.args = x := by cases x; rfl
mutual
def Ex.nodes : Ex → Nat
  | .mk _ _ _ _ _ args => Zb3 args + 1
def Zb3 : List Ex → Nat
  | [] => 0
  | x :: l => x.nodes + Zb3 l
end
mutual
def Ex.fits : Ex → Prop
  | .mk _ _ n s f args => (-9223372036854775808 ≤ n ∧ n ≤ 9223372036854775807) ∧ s.size < 9223372036854775808 ∧ f.size < 9223372036854775808 ∧ args.length < 9223372036854775808 ∧ fitsL args
def fitsL : List Ex → Prop
  | [] => True
  | x :: l => x.fits ∧ fitsL l
end
theorem fitsL_mem {l : List Ex} (h : fitsL l) : ∀ a ∈ l, a.fits := by
  induction l with
  | nil => intro a ha; cases ha
  | cons x l ih =>
    rw [fitsL] at h
    intro a ha
    rcases List.mem_cons.1 ha with rfl | ha
    · exact h.1
    · exact ih h.2 a ha
def nmd (s : ByteArray) (b : Bool) : Bool := bif b then Zev s else bEq s ⟨#[]⟩
def constK (kind n : Int) : Bool := bif kind == 1 then decide (0 ≤ n) && decide (n ≤ 1) else (kind == 2 || kind == 3) && (decide (0 ≤ n) && decide (n ≤ 2147483647))
def headE (x : Ex) : Bool :=
  bif x.op == 1 then constK x.kind x.n && (nmd x.s false && (nmd x.f false && (x.args.length : Int) == 0))
  else (x.kind == 0 && x.n == 0) && (bif x.op == 2 then nmd x.s true && (nmd x.f false && (x.args.length : Int) == 0)
  else bif x.op == 3 then nmd x.s true && (nmd x.f true && (x.args.length : Int) == 0)
  else bif x.op == 4 then nmd x.s true && (nmd x.f false && (x.args.length : Int) == 1)
  else bif x.op == 5 then nmd x.s true && (nmd x.f false && true)
  else bif x.op == 6 || x.op == 7 then nmd x.s false && (nmd x.f false && (x.args.length : Int) == 1)
  else (decide (8 ≤ x.op) && decide (x.op ≤ 21)) && (nmd x.s false && (nmd x.f false && (x.args.length : Int) == 2)))
theorem isNamed_ok {s : ByteArray} (hs : s.size < 9223372036854775808) : ∃ K, ∀ k b, K ≤ k → Z8b k s b = some (nmd s b) := by
  obtain ⟨K, h⟩ := lex_name hs
  refine ⟨K, fun k b hk => ?_⟩
  have hk' : Z50 k s = some (Zev s) := h k hk
  unfold Z8b Zgl nmd
  rw [hk']; cases b <;> rfl
theorem refName_ok {s : ByteArray} (hs : s.size < 9223372036854775808) : ∃ K, ∀ k, K ≤ k → Z52 k s = some (Zev s) := ref_name hs
theorem within_ok (k : Nat) (n lo hi : Int) : Z7a k n lo hi = some (decide (lo ≤ n) && decide (n ≤ hi)) := by
  unfold Z7a
  cases decide (lo ≤ n) <;> rfl
theorem isConst_ok (k : Nat) (kind n : Int) : Zc2 k kind n = some (constK kind n) := by
  unfold Zc2 Zdi Zg3 constK
  simp only [within_ok]
  by_cases h1 : kind = 1
  · simp [h1]
  · by_cases h2 : kind = 2
    · simp [h2]
    · by_cases h3 : kind = 3
      · simp [h3]
      · simp [h1, h2, h3, beq_f h1, beq_f h2, beq_f h3]
theorem bind_eta3 {α β γ : Type} (o : Option (α × β × γ)) : (o.bind fun r => some (r.1, r.2.1, r.2.2)) = o := by cases o <;> rfl
theorem add_ok (k : Nat) (n d depth : Int) (hn : 0 ≤ n ∧ n ≤ 500) : Z4p k n d depth = some (decide (n < 500) && decide (depth ≤ 14), n + 1, imax d depth) := by
  unfold Z4p
  rw [Zaz (n := n + 1) (by omega) (by omega)]
  have e5 : decide (n + 1 ≤ 500) = decide (n < 500) := decide_eq_decide.2 (by omega)
  rw [e5]
  cases decide (n < 500) <;> rfl
theorem prog_expr {x : Ex} {n d depth : Int} (hn : 0 ≤ n ∧ n ≤ 500) (hd : 0 ≤ depth ∧ depth ≤ 100) (hs : x.s.size < 9223372036854775808) (hf : x.f.size < 9223372036854775808) :
    ∃ K, ∀ k, K ≤ k → Zbq (k + 1) n d x depth = bif (decide (n < 500) && (decide (depth ≤ 14) && headE x)) then Z23 k (n + 1) (imax d depth) x.args (depth + 1) else some (false, n + 1, imax d depth) := by
  obtain ⟨K1, h1⟩ := isNamed_ok hs
  obtain ⟨K2, h2⟩ := isNamed_ok hf
  refine ⟨max K1 K2, fun k hk => ?_⟩
  have i1 := fun b => h1 k b (by omega)
  have i2 := fun b => h2 k b (by omega)
  show Z8k k (Zz k) n d x depth = _
  show _ = bif _ then (Zz k).ast_Counter_Exprs (n + 1) (imax d depth) x.args (depth + 1) else _
  unfold Z8k Z4g Zay Z80 Z2s
  simp only [add_ok k n d depth hn, i1, i2, isConst_ok, within_ok, bind_eta3, Option.bind_some]
  rw [Zaz (n := depth + 1) (by omega) (by omega)]
  generalize (Zz k).ast_Counter_Exprs (n + 1) (imax d depth) x.args (depth + 1) = R
  unfold headE
  have hl : ((x.args.length : Int) == (x.args.length : Int)) = true := beq_self_eq_true _
  simp only [bne, hl]
  cases decide (n < 500)
  · simp
  cases decide (depth ≤ 14)
  · simp
  by_cases o1 : x.op = 1
  · have b1 := beq_t o1
    simp only [b1]
    cases constK x.kind x.n <;> cases nmd x.s false <;> cases nmd x.f false <;> cases ((x.args.length : Int) == 0) <;> rfl
  · have b1 := beq_f o1
    simp only [b1]
    cases (x.kind == 0)
    · rfl
    cases (x.n == 0)
    · rfl
    by_cases o2 : x.op = 2
    · have b2 := beq_t o2
      simp only [b2]
      cases nmd x.s true <;> cases nmd x.f false <;> cases ((x.args.length : Int) == 0) <;> rfl
    have b2 := beq_f o2
    simp only [b2]
    by_cases o3 : x.op = 3
    · have b3 := beq_t o3
      simp only [b3]
      cases nmd x.s true <;> cases nmd x.f true <;> cases ((x.args.length : Int) == 0) <;> rfl
    have b3 := beq_f o3
    simp only [b3]
    by_cases o4 : x.op = 4
    · have b4 := beq_t o4
      simp only [b4]
      cases nmd x.s true <;> cases nmd x.f false <;> cases ((x.args.length : Int) == 1) <;> rfl
    have b4 := beq_f o4
    simp only [b4]
    by_cases o5 : x.op = 5
    · have b5 := beq_t o5
      simp only [b5]
      cases nmd x.s true <;> cases nmd x.f false <;> rfl
    have b5 := beq_f o5
    simp only [b5]
    by_cases o6 : x.op = 6
    · have b6 := beq_t o6
      simp only [b6]
      cases nmd x.s false <;> cases nmd x.f false <;> cases ((x.args.length : Int) == 1) <;> rfl
    have b6 := beq_f o6
    simp only [b6]
    by_cases o7 : x.op = 7
    · have b7 := beq_t o7
      simp only [b7]
      cases nmd x.s false <;> cases nmd x.f false <;> cases ((x.args.length : Int) == 1) <;> rfl
    have b7 := beq_f o7
    simp only [b7]
    cases decide (8 ≤ x.op) <;> cases decide (x.op ≤ 21) <;> cases nmd x.s false <;> cases nmd x.f false <;> cases ((x.args.length : Int) == 2) <;> rfl
theorem Zgy (k : Nat) (a b : Int) (w c : Bool) : Zg k a b w c = some (w || !c) := by
  unfold Zg
  cases w <;> cases c <;> rfl
theorem node_ok (k : Nat) (n d depth : Int) (hn : 0 ≤ n ∧ n ≤ 500) : Z4q k n d false depth = some (n + 1, imax d depth, !(decide (n < 500) && decide (depth ≤ 14))) := by
  unfold Z4q Z8v
  rw [Zaz (n := n + 1) (by omega) (by omega)]
  have e1 : decide ((500 : Int) < n + 1) = !decide (n < 500) := by rw [← decide_not]; exact decide_eq_decide.2 (by omega)
  have e2 : decide ((14 : Int) < depth) = !decide (depth ≤ 14) := by rw [← decide_not]; exact decide_eq_decide.2 (by omega)
  rw [e1, e2]
  cases decide (n < 500) <;> cases decide (depth ≤ 14) <;> rfl
set_option maxHeartbeats 4000000 in
theorem ref_expr {x : Ex} {n d depth : Int} (hn : 0 ≤ n ∧ n ≤ 500) (hd : 0 ≤ depth ∧ depth ≤ 100) (hs : x.s.size < 9223372036854775808) (hf : x.f.size < 9223372036854775808) :
    ∃ K, ∀ k, K ≤ k → Zck (k + 1) n d false x depth = Z1b k (n + 1) (imax d depth) (!(decide (n < 500) && (decide (depth ≤ 14) && headE x))) x.args (depth + 1) := by
  obtain ⟨K1, h1⟩ := refName_ok hs
  obtain ⟨K2, h2⟩ := refName_ok hf
  refine ⟨max K1 K2, fun k hk => ?_⟩
  have i1 := h1 k (by omega)
  have i2 := h2 k (by omega)
  show Z9n k (Zw k) n d false x depth = _
  show _ = (Zw k).ref02_Size_Exprs (n + 1) (imax d depth) _ x.args (depth + 1)
  unfold Z9n Zbh Z8m Z1d Z5c Z44 Z41
  simp only [i1, i2, Zgy, bind_eta3, Option.bind_some, node_ok k n d depth hn]
  rw [Zaz (n := depth + 1) (by omega) (by omega)]
  generalize (Zw k).ref02_Size_Exprs (n + 1) (imax d depth) = R
  have ew : (!(decide (n < 500) && (decide (depth ≤ 14) && headE x))) = (!(decide (n < 500) && decide (depth ≤ 14)) || !headE x) := by
    cases decide (n < 500) <;> cases decide (depth ≤ 14) <;> cases headE x <;> rfl
  rw [ew]
  generalize (!(decide (n < 500) && decide (depth ≤ 14))) = w
  cases w
  case true => simp only [Bool.true_or, Bool.cond_self, cond_false]
  simp only [Bool.false_or]
  unfold headE
  have hl : ((x.args.length : Int) == (x.args.length : Int)) = true := beq_self_eq_true _
  simp only [hl]
  by_cases o1 : x.op = 1
  · have b1 := beq_t o1
    unfold nmd constK
    simp only [b1]
    have e1 : x.n ≤ 1 → x.n ≤ 2147483647 := fun h => by omega
    by_cases k1 : x.kind = 1
    · have c1 := beq_t k1
      have c2 : (x.kind == 2) = false := by rw [k1]; rfl
      have c3 : (x.kind == 3) = false := by rw [k1]; rfl
      simp only [c1, c2, c3]
      by_cases z : x.n ≤ 1
      · rw [Zew z, Zew (e1 z)]
        cases decide (0 ≤ x.n) <;> cases bEq x.s ⟨#[]⟩ <;> cases bEq x.f ⟨#[]⟩ <;> cases ((x.args.length : Int) == 0) <;> rfl
      · rw [dec_f z]
        cases decide (0 ≤ x.n) <;> cases decide (x.n ≤ 2147483647) <;> cases bEq x.s ⟨#[]⟩ <;> cases bEq x.f ⟨#[]⟩ <;> cases ((x.args.length : Int) == 0) <;> rfl
    · have c1 := beq_f k1
      simp only [c1]
      cases decide (0 ≤ x.n) <;> cases decide (x.n ≤ 2147483647) <;> cases (x.kind == 2) <;> cases (x.kind == 3) <;> cases bEq x.s ⟨#[]⟩ <;> cases bEq x.f ⟨#[]⟩ <;> cases ((x.args.length : Int) == 0) <;> rfl
  have b1 := beq_f o1
  simp only [b1]
  have nm1 : nmd x.s true = Zev x.s := rfl
  have nm2 : nmd x.s false = bEq x.s ⟨#[]⟩ := rfl
  have nm3 : nmd x.f true = Zev x.f := rfl
  have nm4 : nmd x.f false = bEq x.f ⟨#[]⟩ := rfl
  simp only [nm1, nm2, nm3, nm4]
  by_cases o2 : x.op = 2
  · have b2 := beq_t o2
    simp only [b2]
    cases (x.kind == 0) <;> cases (x.n == 0) <;> cases Zev x.s <;> cases bEq x.f ⟨#[]⟩ <;> cases ((x.args.length : Int) == 0) <;> rfl
  have b2 := beq_f o2
  simp only [b2]
  by_cases o3 : x.op = 3
  · have b3 := beq_t o3
    simp only [b3]
    cases (x.kind == 0) <;> cases (x.n == 0) <;> cases Zev x.s <;> cases Zev x.f <;> cases ((x.args.length : Int) == 0) <;> rfl
  have b3 := beq_f o3
  simp only [b3]
  by_cases o4 : x.op = 4
  · have b4 := beq_t o4
    simp only [b4]
    cases (x.kind == 0) <;> cases (x.n == 0) <;> cases Zev x.s <;> cases bEq x.f ⟨#[]⟩ <;> cases ((x.args.length : Int) == 1) <;> rfl
  have b4 := beq_f o4
  simp only [b4]
  by_cases o5 : x.op = 5
  · have b5 := beq_t o5
    simp only [b5]
    cases (x.kind == 0) <;> cases (x.n == 0) <;> cases Zev x.s <;> cases bEq x.f ⟨#[]⟩ <;> rfl
  have b5 := beq_f o5
  simp only [b5]
  cases (x.op == 6) <;> cases (x.op == 7) <;> cases decide (8 ≤ x.op) <;> cases decide (x.op ≤ 21) <;> simp only [cond_true, cond_false, Bool.or_false, Bool.or_true, Bool.and_true, Bool.and_false, Bool.true_and, Bool.false_and, Bool.not_true, Bool.not_false] <;>
  cases (x.kind == 0) <;> cases (x.n == 0) <;> cases bEq x.s ⟨#[]⟩ <;> cases bEq x.f ⟨#[]⟩ <;> first | rfl | (cases ((x.args.length : Int) == 1) <;> rfl) | (cases ((x.args.length : Int) == 2) <;> rfl)
end Go.Proofs.YtkodnhngllfemaaGreatDoor
