import Derived.Test.YtaknpdhmhifpeaaGreatDoorL5
set_option linter.unusedVariables false
set_option linter.unusedSimpArgs false
namespace Go.Proofs.YtaknpdhmhifpeaaGreatDoor
open Go

/-! ### 62. Statements: both counters agree -/
theorem St.ind {P : St → Prop} {Q : Ar → Prop} (hs : ∀ op name index fields args n body arms other els, (∀ s ∈ body, P s) → (∀ a ∈ arms, Q a) → (∀ s ∈ other, P s) → P (.mk op name index fields args n body arms other els))
    (ha : ∀ cond labels body, (∀ s ∈ body, P s) → Q (.mk cond labels body)) (s : St) : P s :=
  St.rec (motive_1 := P) (motive_2 := Q) (motive_3 := fun l => ∀ s ∈ l, P s) (motive_4 := fun l => ∀ a ∈ l, Q a)
    (fun op name index fields args n body arms other els h1 h2 h3 => hs op name index fields args n body arms other els h1 h2 h3) (fun cond labels body h => ha cond labels body h)
    (fun _ h => by cases h) (fun a l h1 h2 b hb => by
      rcases List.mem_cons.1 hb with rfl | hb
      · exact h1
      · exact h2 b hb)
    (fun _ h => by cases h) (fun a l h1 h2 b hb => by
      rcases List.mem_cons.1 hb with rfl | hb
      · exact h1
      · exact h2 b hb) s
mutual
def St.nodes : St → Nat
  | .mk _ _ index _ args _ body arms other _ => Z9p arms + (Z3c index + (Z3c args + (Z3e body + Z3e other))) + 1
def Ar.nodes : Ar → Nat
  | .mk cond _ body => Z3c cond + Z3e body + 1
def Z3e : List St → Nat
  | [] => 0
  | s :: l => s.nodes + Z3e l
def Z9p : List Ar → Nat
  | [] => 0
  | a :: l => a.nodes + Z9p l
end
mutual
def St.fits : St → Prop
  | .mk _ name index fields args n body arms other _ => (-9223372036854775808 ≤ n ∧ n ≤ 9223372036854775807) ∧ name.size < 9223372036854775808 ∧ (index.length < 9223372036854775808 ∧ fitsL index) ∧ (fields.length < 9223372036854775808 ∧ ∀ x ∈ fields, x.size < 9223372036854775808) ∧
    (args.length < 9223372036854775808 ∧ fitsL args) ∧ (body.length < 9223372036854775808 ∧ fitsSL body) ∧ (arms.length < 9223372036854775808 ∧ fitsAL arms) ∧ (other.length < 9223372036854775808 ∧ fitsSL other)
def Ar.fits : Ar → Prop
  | .mk cond labels body => (cond.length < 9223372036854775808 ∧ fitsL cond) ∧ (labels.length < 9223372036854775808 ∧ ∀ x ∈ labels, -9223372036854775808 ≤ x ∧ x ≤ 9223372036854775807) ∧ (body.length < 9223372036854775808 ∧ fitsSL body)
def fitsSL : List St → Prop
  | [] => True
  | s :: l => s.fits ∧ fitsSL l
def fitsAL : List Ar → Prop
  | [] => True
  | a :: l => a.fits ∧ fitsAL l
end
theorem Z3j {l : List St} (h : fitsSL l) : ∀ a ∈ l, a.fits := by
  induction l with
  | nil => intro a ha; cases ha
  | cons x l ih =>
    rw [fitsSL] at h
    intro a ha
    rcases List.mem_cons.1 ha with rfl | ha
    · exact h.1
    · exact ih h.2 a ha
theorem fitsAL_mem {l : List Ar} (h : fitsAL l) : ∀ a ∈ l, a.fits := by
  induction l with
  | nil => intro a ha; cases ha
  | cons x l ih =>
    rw [fitsAL] at h
    intro a ha
    rcases List.mem_cons.1 ha with rfl | ha
    · exact h.1
    · exact ih h.2 a ha
def headA (a : Ar) (op : Int) : Bool := (bif op == 3 then (a.cond.length : Int) == 1 && (a.labels.length : Int) == 0 else (a.cond.length : Int) == 0 && !((a.labels.length : Int) == 0)) && a.labels.all labB
mutual
def WDS : St → Int → Prop
  | .mk op name index fields args n body arms other els, d => headS (.mk op name index fields args n body arms other els) = true ∧ d ≤ 14 ∧ WDAL arms op (d + 1) ∧ WDL index (d + 1) ∧ WDL args (d + 1) ∧ WDSL body (d + 1) ∧ WDSL other (d + 1)
def WDA : Ar → Int → Int → Prop
  | .mk cond labels body, op, d => headA (.mk cond labels body) op = true ∧ d ≤ 14 ∧ WDL cond (d + 1) ∧ WDSL body (d + 1)
def WDSL : List St → Int → Prop
  | [], _ => True
  | s :: l, d => WDS s d ∧ WDSL l d
def WDAL : List Ar → Int → Int → Prop
  | [], _, _ => True
  | a :: l, op, d => WDA a op d ∧ WDAL l op d
end
/-! one side at a time -/
def PA (n : Int) (m : Nat) (W : Prop) (p : Nat → Option (Bool × Int × Int)) : Prop := (W ∧ n + m ≤ 500 → ∃ d, Ev p (true, n + m, d)) ∧ (¬ (W ∧ n + m ≤ 500) → ∃ a b, Ev p (false, a, b))
def RB (n : Int) (m : Nat) (W : Prop) (r : Nat → Option (Int × Int × Bool)) : Prop := (W ∧ n + m ≤ 500 → ∃ d, Ev r (n + m, d, false)) ∧ (¬ (W ∧ n + m ≤ 500) → ∃ a b, Ev r (a, b, true))
theorem Agree.pa {n : Int} {m : Nat} {W : Prop} {p : Nat → Option (Bool × Int × Int)} {r : Nat → Option (Int × Int × Bool)} (h : Agree n m W p r) : PA n m W p :=
  ⟨fun hw => let ⟨d1, _, h1, _⟩ := h.1 hw; ⟨d1, h1⟩, fun hw => let ⟨a, b, _, _, h1, _⟩ := h.2 hw; ⟨a, b, h1⟩⟩
theorem Agree.ra {n : Int} {m : Nat} {W : Prop} {p : Nat → Option (Bool × Int × Int)} {r : Nat → Option (Int × Int × Bool)} (h : Agree n m W p r) : RB n m W r :=
  ⟨fun hw => let ⟨_, d2, _, h2⟩ := h.1 hw; ⟨d2, h2⟩, fun hw => let ⟨_, _, a, b, _, h2⟩ := h.2 hw; ⟨a, b, h2⟩⟩
theorem PA.congr {n : Int} {m m' : Nat} {W W' : Prop} {p p' : Nat → Option (Bool × Int × Int)} (h : PA n m W p) (hm : m = m') (hW : W ↔ W') (hp : ∀ R, Ev p R → Ev p' R) : PA n m' W' p' := by
  subst hm
  refine ⟨fun hw => ?_, fun hw => ?_⟩
  · obtain ⟨d, h1⟩ := h.1 ⟨hW.2 hw.1, hw.2⟩; exact ⟨d, hp _ h1⟩
  · obtain ⟨a, b, h1⟩ := h.2 (fun h' => hw ⟨hW.1 h'.1, h'.2⟩); exact ⟨a, b, hp _ h1⟩
theorem RB.congr {n : Int} {m m' : Nat} {W W' : Prop} {p p' : Nat → Option (Int × Int × Bool)} (h : RB n m W p) (hm : m = m') (hW : W ↔ W') (hp : ∀ R, Ev p R → Ev p' R) : RB n m' W' p' := by
  subst hm
  refine ⟨fun hw => ?_, fun hw => ?_⟩
  · obtain ⟨d, h1⟩ := h.1 ⟨hW.2 hw.1, hw.2⟩; exact ⟨d, hp _ h1⟩
  · obtain ⟨a, b, h1⟩ := h.2 (fun h' => hw ⟨hW.1 h'.1, h'.2⟩); exact ⟨a, b, hp _ h1⟩
theorem PA.bind {n : Int} {m1 m2 : Nat} {W1 W2 : Prop} {p : Nat → Option (Bool × Int × Int)} {q : Nat → Int → Int → Option (Bool × Int × Int)} (h1 : PA n m1 W1 p) (h2 : n + m1 ≤ 500 → ∀ d, PA (n + m1) m2 W2 (fun k => q k (n + m1) d)) :
    PA n (m1 + m2) (W1 ∧ W2) (fun k => (p k).bind fun r => bif r.1 then q k r.2.1 r.2.2 else some (false, r.2.1, r.2.2)) := by
  by_cases hw : W1 ∧ n + m1 ≤ 500
  · obtain ⟨d, e1⟩ := h1.1 hw
    have h2' := h2 hw.2 d
    have en : n + ((m1 + m2 : Nat) : Int) = n + m1 + m2 := by omega
    have go : ∀ R, Ev (fun k => q k (n + m1) d) R → Ev (fun k => (p k).bind fun r => bif r.1 then q k r.2.1 r.2.2 else some (false, r.2.1, r.2.2)) R := fun R hR => Ev.bind (a := (true, n + (m1 : Int), d)) (g := fun k r => bif r.1 then q k r.2.1 r.2.2 else some (false, r.2.1, r.2.2)) e1 hR
    refine ⟨fun hW => ?_, fun hW => ?_⟩
    · obtain ⟨d', e2⟩ := h2'.1 ⟨hW.1.2, by omega⟩
      exact ⟨d', by rw [en]; exact go _ e2⟩
    · obtain ⟨a, b, e2⟩ := h2'.2 (fun h' => hW ⟨⟨hw.1, h'.1⟩, by omega⟩)
      exact ⟨a, b, go _ e2⟩
  · obtain ⟨a, b, e1⟩ := h1.2 hw
    refine ⟨fun hW => absurd ⟨hW.1.1, by omega⟩ hw, fun _ => ⟨a, b, ?_⟩⟩
    exact Ev.bind (a := (false, a, b)) (g := fun k r => bif r.1 then q k r.2.1 r.2.2 else some (false, r.2.1, r.2.2)) e1 (Ev.now fun _ => rfl)
theorem RB.bind {n : Int} {m1 m2 : Nat} {W1 W2 : Prop} {p : Nat → Option (Int × Int × Bool)} {q : Nat → Int → Int → Bool → Option (Int × Int × Bool)} (h1 : RB n m1 W1 p) (h2 : n + m1 ≤ 500 → ∀ d, RB (n + m1) m2 W2 (fun k => q k (n + m1) d false))
    (hw : ∀ a b, ∃ a' b', Ev (fun k => q k a b true) (a', b', true)) : RB n (m1 + m2) (W1 ∧ W2) (fun k => (p k).bind fun r => q k r.1 r.2.1 r.2.2) := by
  by_cases hw1 : W1 ∧ n + m1 ≤ 500
  · obtain ⟨d, e1⟩ := h1.1 hw1
    have h2' := h2 hw1.2 d
    have en : n + ((m1 + m2 : Nat) : Int) = n + m1 + m2 := by omega
    have go : ∀ R, Ev (fun k => q k (n + m1) d false) R → Ev (fun k => (p k).bind fun r => q k r.1 r.2.1 r.2.2) R := fun R hR => Ev.bind (a := (n + (m1 : Int), d, false)) (g := fun k r => q k r.1 r.2.1 r.2.2) e1 hR
    refine ⟨fun hW => ?_, fun hW => ?_⟩
    · obtain ⟨d', e2⟩ := h2'.1 ⟨hW.1.2, by omega⟩
      exact ⟨d', by rw [en]; exact go _ e2⟩
    · obtain ⟨a, b, e2⟩ := h2'.2 (fun h' => hW ⟨⟨hw1.1, h'.1⟩, by omega⟩)
      exact ⟨a, b, go _ e2⟩
  · obtain ⟨a, b, e1⟩ := h1.2 hw1
    obtain ⟨a', b', e2⟩ := hw a b
    exact ⟨fun hW => absurd ⟨hW.1.1, by omega⟩ hw1, fun _ => ⟨a', b', Ev.bind (a := (a, b, true)) (g := fun k r => q k r.1 r.2.1 r.2.2) e1 e2⟩⟩
theorem Zcz {α β γ : Type} (o : Option (α × β × γ)) : (o.bind fun r => some (r.1, r.2.1, r.2.2)) = o := by cases o <;> rfl
theorem cond_n {α : Type} (b : Bool) (x y : α) : (bif !b then x else y) = bif b then y else x := by cases b <;> rfl
/-! the reference, once it is wrong -/
theorem exprs_w (xs : List Ex) (depth n d : Int) : Ev (fun k => Z17 k n d true xs depth) (n, d, true) := Ev.succ (Zdn xs depth n d 0)
theorem stmts_loop_w (xs : List St) (depth n d i : Int) : Ev (fun k => (Ze k).ref02_Size_Stmts_l1 xs depth i n d true) (n, d, true) := by
  refine Ev.succ (Ev.now fun k => ?_)
  show Z2k k _ xs depth i n d true = _
  unfold Z2k Z4v
  cases decide (i < (xs.length : Int)) <;> rfl
theorem stmts_w (xs : List St) (depth n d : Int) : Ev (fun k => Z16 k n d true xs depth) (n, d, true) := Ev.succ (stmts_loop_w xs depth n d 0)
def PS (s : St) : Prop := ∀ n d depth : Int, 0 ≤ n ∧ n ≤ 500 → 0 ≤ depth ∧ depth ≤ 18 → PA n s.nodes (WDS s depth) (fun k => Zau k n d s depth)
def RSt (s : St) : Prop := ∀ n d depth : Int, 0 ≤ n ∧ n ≤ 500 → 0 ≤ depth ∧ depth ≤ 18 → RB n s.nodes (WDS s depth) (fun k => Zc0 k n d false s depth)
def PAr (a : Ar) : Prop := ∀ op n d depth : Int, op = 3 ∨ op = 4 → 0 ≤ n ∧ n ≤ 500 → 0 ≤ depth ∧ depth ≤ 18 → PA n a.nodes (WDA a op depth) (fun k => Zbx k n d a op depth)
def RAr (a : Ar) : Prop := ∀ op n d depth : Int, op = 3 ∨ op = 4 → 0 ≤ n ∧ n ≤ 500 → 0 ≤ depth ∧ depth ≤ 18 → RB n a.nodes (WDA a op depth) (fun k => Zcs k n d false a (op == 3) depth)
theorem text_loop (xs : List St) (depth : Int) (hdp : 0 ≤ depth ∧ depth ≤ 18) (hlen : xs.length < 9223372036854775808) (hx : ∀ s ∈ xs, PS s) : ∀ (rest pre : List St), xs = pre ++ rest → ∀ n d : Int, 0 ≤ n ∧ n ≤ 500 →
    PA n (Z3e rest) (WDSL rest depth) (fun k => (Zg k).ast_Counter_Text_l1 xs depth (pre.length : Int) n d)
  | [], pre, h, n, d, hn => by
    have e : Ev (fun k => (Zg k).ast_Counter_Text_l1 xs depth (pre.length : Int) n d) (true, n, d) := by
      refine Ev.succ (Ev.now fun k => ?_)
      show Z3v k _ xs depth _ n d = _
      unfold Z3v
      rw [Z90 (by rw [h]; simp)]; rfl
    have en : n + ((Z3e [] : Nat) : Int) = n := by simp [Z3e]
    exact ⟨fun _ => ⟨d, by rw [en]; exact e⟩, fun hw => absurd ⟨by simp [WDSL], by rw [en]; exact hn.2⟩ hw⟩
  | s :: rest, pre, h, n, d, hn => by
    have hl : xs.length = pre.length + 1 + rest.length := by rw [h]; simp; omega
    have hm : at? xs (pre.length : Int) = some s := by rw [h]; exact Z8y _ _ _
    have e2 : (pre ++ [s]).length = pre.length + 1 := by simp
    refine (PA.bind (q := fun k n' d' => (Zg k).ast_Counter_Text_l1 xs depth ((pre ++ [s]).length : Int) n' d') (hx s (by rw [h]; simp) n d depth hn hdp) (fun hn1 d' => text_loop xs depth hdp hlen hx rest (pre ++ [s]) (by rw [h]; simp) _ d' ⟨by omega, hn1⟩)).congr (by rw [Z3e]) (by rw [WDSL]) (fun R hR => Ev.succ (Ev.of_eq hR fun k => ?_))
    show Z3v k _ xs depth _ n d = _
    unfold Z3v Zaj
    rw [Z6r (by omega), hm]
    simp only [cond_true, Option.bind_some, St.eta, cond_n]
    rw [Z27 (by omega), ← e2]
    rfl
theorem text_pa {xs : List St} {depth : Int} (hdp : 0 ≤ depth ∧ depth ≤ 18) (hlen : xs.length < 9223372036854775808) (hx : ∀ s ∈ xs, PS s) {n d : Int} (hn : 0 ≤ n ∧ n ≤ 500) : PA n (Z3e xs) (WDSL xs depth) (fun k => Z1v k n d xs depth) :=
  (text_loop xs depth hdp hlen hx xs [] rfl n d hn).congr rfl Iff.rfl (fun R hR => Ev.succ hR)
theorem stmts_loop (xs : List St) (depth : Int) (hdp : 0 ≤ depth ∧ depth ≤ 18) (hlen : xs.length < 9223372036854775808) (hx : ∀ s ∈ xs, RSt s) : ∀ (rest pre : List St), xs = pre ++ rest → ∀ n d : Int, 0 ≤ n ∧ n ≤ 500 →
    RB n (Z3e rest) (WDSL rest depth) (fun k => (Ze k).ref02_Size_Stmts_l1 xs depth (pre.length : Int) n d false)
  | [], pre, h, n, d, hn => by
    have e : Ev (fun k => (Ze k).ref02_Size_Stmts_l1 xs depth (pre.length : Int) n d false) (n, d, false) := by
      refine Ev.succ (Ev.now fun k => ?_)
      show Z2k k _ xs depth _ n d false = _
      unfold Z2k Z4v
      rw [Z90 (by rw [h]; simp)]; rfl
    have en : n + ((Z3e [] : Nat) : Int) = n := by simp [Z3e]
    exact ⟨fun _ => ⟨d, by rw [en]; exact e⟩, fun hw => absurd ⟨by simp [WDSL], by rw [en]; exact hn.2⟩ hw⟩
  | s :: rest, pre, h, n, d, hn => by
    have hl : xs.length = pre.length + 1 + rest.length := by rw [h]; simp; omega
    have hm : at? xs (pre.length : Int) = some s := by rw [h]; exact Z8y _ _ _
    have e2 : (pre ++ [s]).length = pre.length + 1 := by simp
    refine (RB.bind (q := fun k n' d' w => (Ze k).ref02_Size_Stmts_l1 xs depth ((pre ++ [s]).length : Int) n' d' w) (hx s (by rw [h]; simp) n d depth hn hdp) (fun hn1 d' => stmts_loop xs depth hdp hlen hx rest (pre ++ [s]) (by rw [h]; simp) _ d' ⟨by omega, hn1⟩) (fun a b => ⟨a, b, stmts_loop_w _ _ _ _ _⟩)).congr (by rw [Z3e]) (by rw [WDSL]) (fun R hR => Ev.succ (Ev.of_eq hR fun k => ?_))
    show Z2k k _ xs depth _ n d false = _
    unfold Z2k Z4v Z9y
    rw [Z6r (by omega), hm]
    simp only [cond_true, Option.bind_some, Bool.not_false]
    rw [Z27 (by omega), ← e2]
    rfl
theorem stmts_ra {xs : List St} {depth : Int} (hdp : 0 ≤ depth ∧ depth ≤ 18) (hlen : xs.length < 9223372036854775808) (hx : ∀ s ∈ xs, RSt s) {n d : Int} (hn : 0 ≤ n ∧ n ≤ 500) : RB n (Z3e xs) (WDSL xs depth) (fun k => Z16 k n d false xs depth) :=
  (stmts_loop xs depth hdp hlen hx xs [] rfl n d hn).congr rfl Iff.rfl (fun R hR => Ev.succ hR)
theorem exprs_pa {xs : List Ex} {depth : Int} (hdp : 0 ≤ depth ∧ depth ≤ 20) (hlen : xs.length < 9223372036854775808) (hf : fitsL xs) {n d : Int} (hn : 0 ≤ n ∧ n ≤ 500) : PA n (Z3c xs) (WDL xs depth) (fun k => Z1x k n d xs depth) :=
  (agree_exprs (dr := 0) hdp hlen (fun a ha => agree_expr a (fitsL_mem hf a ha)) hn).pa
theorem exprs_ra {xs : List Ex} {depth : Int} (hdp : 0 ≤ depth ∧ depth ≤ 20) (hlen : xs.length < 9223372036854775808) (hf : fitsL xs) {n d : Int} (hn : 0 ≤ n ∧ n ≤ 500) : RB n (Z3c xs) (WDL xs depth) (fun k => Z17 k n d false xs depth) :=
  (agree_exprs (d := 0) hdp hlen (fun a ha => agree_expr a (fitsL_mem hf a ha)) hn).ra
end Go.Proofs.YtaknpdhmhifpeaaGreatDoor
