import Derived.Test.YtkodnhngllfemaaGreatDoorL5
set_option linter.unusedVariables false
set_option linter.unusedSimpArgs false
namespace Go.Proofs.YtkodnhngllfemaaGreatDoor
open Go
theorem St.ind {P : St → Prop} {Q : Ar → Prop} (hs : ∀ op name index fields args n body arms other els, (∀ s ∈ body, P s) → (∀ a ∈ arms, Q a) → (∀ s ∈ other, P s) → P (.mk op name index fields args n body arms other els))
    (ha : ∀ cond labels body, (∀ s ∈ body, P s) → Q (.mk cond labels body)) (s : St) : P s :=
  St.rec (motive_1 := P) (motive_2 := Q) (motive_3 := fun l => ∀ s ∈ l, P s) (motive_4 := fun l => ∀ a ∈ l, Q a)
    (fun op name index fields args n body arms other els h1 h2 h3 => hs op name index fields args n body arms other els h1 h2 h3) (fun cond labels body h => ha cond labels body h)
    (fun _ h => by cases h) (fun a l h1 h2 b hb => by
      rcases List.mem_cons.1 hb with rfl | hb
      · exact h1
      · exact h2 b hb)
    (fun _ h => by cases h) (fun a l h1 h2 b hb => by
      rcases List.mem_cons.1 hb with rfl | hb
      · exact h1
      · exact h2 b hb) s
mutual
def St.nodes : St → Nat
  | .mk _ _ index _ args _ body arms other _ => Zh8 arms + (Zb3 index + (Zb3 args + (Z6a body + Z6a other))) + 1
def Ar.nodes : Ar → Nat
  | .mk cond _ body => Zb3 cond + Z6a body + 1
def Z6a : List St → Nat
  | [] => 0
  | s :: l => s.nodes + Z6a l
def Zh8 : List Ar → Nat
  | [] => 0
  | a :: l => a.nodes + Zh8 l
end
mutual
def St.fits : St → Prop
  | .mk _ name index fields args n body arms other _ => (-9223372036854775808 ≤ n ∧ n ≤ 9223372036854775807) ∧ name.size < 9223372036854775808 ∧ (index.length < 9223372036854775808 ∧ fitsL index) ∧ (fields.length < 9223372036854775808 ∧ ∀ x ∈ fields, x.size < 9223372036854775808) ∧
    (args.length < 9223372036854775808 ∧ fitsL args) ∧ (body.length < 9223372036854775808 ∧ fitsSL body) ∧ (arms.length < 9223372036854775808 ∧ fitsAL arms) ∧ (other.length < 9223372036854775808 ∧ fitsSL other)
def Ar.fits : Ar → Prop
  | .mk cond labels body => (cond.length < 9223372036854775808 ∧ fitsL cond) ∧ (labels.length < 9223372036854775808 ∧ ∀ x ∈ labels, -9223372036854775808 ≤ x ∧ x ≤ 9223372036854775807) ∧ (body.length < 9223372036854775808 ∧ fitsSL body)
def fitsSL : List St → Prop
  | [] => True
  | s :: l => s.fits ∧ fitsSL l
def fitsAL : List Ar → Prop
  | [] => True
  | a :: l => a.fits ∧ fitsAL l
end
theorem Z4w {l : List St} (h : fitsSL l) : ∀ a ∈ l, a.fits := by
  induction l with
  | nil => intro a ha; cases ha
  | cons x l ih =>
    rw [fitsSL] at h
    intro a ha
    rcases List.mem_cons.1 ha with rfl | ha
    · exact h.1
    · exact ih h.2 a ha
theorem fitsAL_mem {l : List Ar} (h : fitsAL l) : ∀ a ∈ l, a.fits := by
  induction l with
  | nil => intro a ha; cases ha
  | cons x l ih =>
    rw [fitsAL] at h
    intro a ha
    rcases List.mem_cons.1 ha with rfl | ha
    · exact h.1
    · exact ih h.2 a ha
def headA (a : Ar) (op : Int) : Bool := (bif op == 3 then (a.cond.length : Int) == 1 && (a.labels.length : Int) == 0 else (a.cond.length : Int) == 0 && !((a.labels.length : Int) == 0)) && a.labels.all labB
mutual
def WDS : St → Int → Prop
  | .mk op name index fields args n body arms other els, d => headS (.mk op name index fields args n body arms other els) = true ∧ d ≤ 14 ∧ WDAL arms op (d + 1) ∧ WDL index (d + 1) ∧ WDL args (d + 1) ∧ WDSL body (d + 1) ∧ WDSL other (d + 1)
def WDA : Ar → Int → Int → Prop
  | .mk cond labels body, op, d => headA (.mk cond labels body) op = true ∧ d ≤ 14 ∧ WDL cond (d + 1) ∧ WDSL body (d + 1)
def WDSL : List St → Int → Prop
  | [], _ => True
  | s :: l, d => WDS s d ∧ WDSL l d
def WDAL : List Ar → Int → Int → Prop
  | [], _, _ => True
  | a :: l, op, d => WDA a op d ∧ WDAL l op d
end
mutual
def St.dep : St → Int → Int → Int
  | .mk _ _ index _ args _ body arms other _, depth, d => depSL other (depth + 1) (depSL body (depth + 1) (depL args (depth + 1) (depL index (depth + 1) (depAL arms (depth + 1) (imax d depth)))))
def Ar.dep : Ar → Int → Int → Int
  | .mk cond _ body, depth, d => depSL body (depth + 1) (depL cond (depth + 1) (imax d depth))
def depSL : List St → Int → Int → Int
  | [], _, d => d
  | s :: l, depth, d => depSL l depth (s.dep depth d)
def depAL : List Ar → Int → Int → Int
  | [], _, d => d
  | a :: l, depth, d => depAL l depth (a.dep depth d)
end
def PA (n D : Int) (m : Nat) (W : Prop) (p : Nat → Option (Bool × Int × Int)) : Prop := (W ∧ n + m ≤ 500 → Ev p (true, n + m, D)) ∧ (¬ (W ∧ n + m ≤ 500) → ∃ a b, Ev p (false, a, b))
def RB (n D : Int) (m : Nat) (W : Prop) (r : Nat → Option (Int × Int × Bool)) : Prop := (W ∧ n + m ≤ 500 → Ev r (n + m, D, false)) ∧ (¬ (W ∧ n + m ≤ 500) → ∃ a b, Ev r (a, b, true))
theorem Agree.pa {n d1 d2 : Int} {m : Nat} {W : Prop} {p : Nat → Option (Bool × Int × Int)} {r : Nat → Option (Int × Int × Bool)} (h : Agree n d1 d2 m W p r) : PA n d1 m W p :=
  ⟨fun hw => (h.1 hw).1, fun hw => let ⟨a, b, _, _, h1, _⟩ := h.2 hw; ⟨a, b, h1⟩⟩
theorem Agree.ra {n d1 d2 : Int} {m : Nat} {W : Prop} {p : Nat → Option (Bool × Int × Int)} {r : Nat → Option (Int × Int × Bool)} (h : Agree n d1 d2 m W p r) : RB n d2 m W r :=
  ⟨fun hw => (h.1 hw).2, fun hw => let ⟨_, _, a, b, _, h2⟩ := h.2 hw; ⟨a, b, h2⟩⟩
theorem PA.congr {n D D' : Int} {m m' : Nat} {W W' : Prop} {p p' : Nat → Option (Bool × Int × Int)} (h : PA n D m W p) (hD : D = D') (hm : m = m') (hW : W ↔ W') (hp : ∀ R, Ev p R → Ev p' R) : PA n D' m' W' p' := by
  subst hm hD
  refine ⟨fun hw => ?_, fun hw => ?_⟩
  · exact hp _ (h.1 ⟨hW.2 hw.1, hw.2⟩)
  · obtain ⟨a, b, h1⟩ := h.2 (fun h' => hw ⟨hW.1 h'.1, h'.2⟩); exact ⟨a, b, hp _ h1⟩
theorem RB.congr {n D D' : Int} {m m' : Nat} {W W' : Prop} {p p' : Nat → Option (Int × Int × Bool)} (h : RB n D m W p) (hD : D = D') (hm : m = m') (hW : W ↔ W') (hp : ∀ R, Ev p R → Ev p' R) : RB n D' m' W' p' := by
  subst hm hD
  refine ⟨fun hw => ?_, fun hw => ?_⟩
  · exact hp _ (h.1 ⟨hW.2 hw.1, hw.2⟩)
  · obtain ⟨a, b, h1⟩ := h.2 (fun h' => hw ⟨hW.1 h'.1, h'.2⟩); exact ⟨a, b, hp _ h1⟩
theorem PA.bind {n D1 D2 : Int} {m1 m2 : Nat} {W1 W2 : Prop} {p : Nat → Option (Bool × Int × Int)} {q : Nat → Int → Int → Option (Bool × Int × Int)} (h1 : PA n D1 m1 W1 p) (h2 : n + m1 ≤ 500 → PA (n + m1) D2 m2 W2 (fun k => q k (n + m1) D1)) :
    PA n D2 (m1 + m2) (W1 ∧ W2) (fun k => (p k).bind fun r => bif r.1 then q k r.2.1 r.2.2 else some (false, r.2.1, r.2.2)) := by
  by_cases hw : W1 ∧ n + m1 ≤ 500
  · have e1 := h1.1 hw
    have h2' := h2 hw.2
    have en : n + ((m1 + m2 : Nat) : Int) = n + m1 + m2 := by omega
    have go : ∀ R, Ev (fun k => q k (n + m1) D1) R → Ev (fun k => (p k).bind fun r => bif r.1 then q k r.2.1 r.2.2 else some (false, r.2.1, r.2.2)) R := fun R hR => Ev.bind (a := (true, n + (m1 : Int), D1)) (g := fun k r => bif r.1 then q k r.2.1 r.2.2 else some (false, r.2.1, r.2.2)) e1 hR
    refine ⟨fun hW => ?_, fun hW => ?_⟩
    · have e2 := h2'.1 ⟨hW.1.2, by omega⟩
      rw [en]; exact go _ e2
    · obtain ⟨a, b, e2⟩ := h2'.2 (fun h' => hW ⟨⟨hw.1, h'.1⟩, by omega⟩)
      exact ⟨a, b, go _ e2⟩
  · obtain ⟨a, b, e1⟩ := h1.2 hw
    refine ⟨fun hW => absurd ⟨hW.1.1, by omega⟩ hw, fun _ => ⟨a, b, ?_⟩⟩
    exact Ev.bind (a := (false, a, b)) (g := fun k r => bif r.1 then q k r.2.1 r.2.2 else some (false, r.2.1, r.2.2)) e1 (Ev.now fun _ => rfl)
theorem RB.bind {n D1 D2 : Int} {m1 m2 : Nat} {W1 W2 : Prop} {p : Nat → Option (Int × Int × Bool)} {q : Nat → Int → Int → Bool → Option (Int × Int × Bool)} (h1 : RB n D1 m1 W1 p) (h2 : n + m1 ≤ 500 → RB (n + m1) D2 m2 W2 (fun k => q k (n + m1) D1 false))
    (hw : ∀ a b, ∃ a' b', Ev (fun k => q k a b true) (a', b', true)) : RB n D2 (m1 + m2) (W1 ∧ W2) (fun k => (p k).bind fun r => q k r.1 r.2.1 r.2.2) := by
  by_cases hw1 : W1 ∧ n + m1 ≤ 500
  · have e1 := h1.1 hw1
    have h2' := h2 hw1.2
    have en : n + ((m1 + m2 : Nat) : Int) = n + m1 + m2 := by omega
    have go : ∀ R, Ev (fun k => q k (n + m1) D1 false) R → Ev (fun k => (p k).bind fun r => q k r.1 r.2.1 r.2.2) R := fun R hR => Ev.bind (a := (n + (m1 : Int), D1, false)) (g := fun k r => q k r.1 r.2.1 r.2.2) e1 hR
    refine ⟨fun hW => ?_, fun hW => ?_⟩
    · have e2 := h2'.1 ⟨hW.1.2, by omega⟩
      rw [en]; exact go _ e2
    · obtain ⟨a, b, e2⟩ := h2'.2 (fun h' => hW ⟨⟨hw1.1, h'.1⟩, by omega⟩)
      exact ⟨a, b, go _ e2⟩
  · obtain ⟨a, b, e1⟩ := h1.2 hw1
    obtain ⟨a', b', e2⟩ := hw a b
    exact ⟨fun hW => absurd ⟨hW.1.1, by omega⟩ hw1, fun _ => ⟨a', b', Ev.bind (a := (a, b, true)) (g := fun k r => q k r.1 r.2.1 r.2.2) e1 e2⟩⟩
theorem Zfy {α β γ : Type} (o : Option (α × β × γ)) : (o.bind fun r => some (r.1, r.2.1, r.2.2)) = o := by cases o <;> rfl
theorem cond_n {α : Type} (b : Bool) (x y : α) : (bif !b then x else y) = bif b then y else x := by cases b <;> rfl
theorem exprs_w (xs : List Ex) (depth n d : Int) : Ev (fun k => Z1b k n d true xs depth) (n, d, true) := Ev.succ (Zfb xs depth n d 0)
theorem stmts_loop_w (xs : List St) (depth n d i : Int) : Ev (fun k => (Zk k).ref02_Size_Stmts_l1 xs depth i n d true) (n, d, true) := by
  refine Ev.succ (Ev.now fun k => ?_)
  show Z33 k _ xs depth i n d true = _
  unfold Z33 Z4l
  cases decide (i < (xs.length : Int)) <;> rfl
theorem stmts_w (xs : List St) (depth n d : Int) : Ev (fun k => Z1c k n d true xs depth) (n, d, true) := Ev.succ (stmts_loop_w xs depth n d 0)
def PS (s : St) : Prop := ∀ n d depth : Int, 0 ≤ n ∧ n ≤ 500 → 0 ≤ depth ∧ depth ≤ 18 → PA n (s.dep depth d) s.nodes (WDS s depth) (fun k => Zfq k n d s depth)
def RSt (s : St) : Prop := ∀ n d depth : Int, 0 ≤ n ∧ n ≤ 500 → 0 ≤ depth ∧ depth ≤ 18 → RB n (s.dep depth d) s.nodes (WDS s depth) (fun k => Zh3 k n d false s depth)
def PAr (a : Ar) : Prop := ∀ op n d depth : Int, op = 3 ∨ op = 4 → 0 ≤ n ∧ n ≤ 500 → 0 ≤ depth ∧ depth ≤ 18 → PA n (a.dep depth d) a.nodes (WDA a op depth) (fun k => Zha k n d a op depth)
def RAr (a : Ar) : Prop := ∀ op n d depth : Int, op = 3 ∨ op = 4 → 0 ≤ n ∧ n ≤ 500 → 0 ≤ depth ∧ depth ≤ 18 → RB n (a.dep depth d) a.nodes (WDA a op depth) (fun k => F_ref02_Size_arm k n d false a (op == 3) depth)
theorem text_loop (xs : List St) (depth : Int) (hdp : 0 ≤ depth ∧ depth ≤ 18) (hlen : xs.length < 9223372036854775808) (hx : ∀ s ∈ xs, PS s) : ∀ (rest pre : List St), xs = pre ++ rest → ∀ n d : Int, 0 ≤ n ∧ n ≤ 500 →
    PA n (depSL rest depth d) (Z6a rest) (WDSL rest depth) (fun k => (Zm k).ast_Counter_Text_l1 xs depth (pre.length : Int) n d)
  | [], pre, h, n, d, hn => by
    have e : Ev (fun k => (Zm k).ast_Counter_Text_l1 xs depth (pre.length : Int) n d) (true, n, d) := by
      refine Ev.succ (Ev.now fun k => ?_)
      show Z4s k _ xs depth _ n d = _
      unfold Z4s
      rw [dec_f (by rw [h]; simp)]; rfl
    have en : n + ((Z6a [] : Nat) : Int) = n := by simp [Z6a]
    exact ⟨fun _ => by rw [en, depSL]; exact e, fun hw => absurd ⟨by simp [WDSL], by rw [en]; exact hn.2⟩ hw⟩
  | s :: rest, pre, h, n, d, hn => by
    have hl : xs.length = pre.length + 1 + rest.length := by rw [h]; simp; omega
    have hm : at? xs (pre.length : Int) = some s := by rw [h]; exact at_mid _ _ _
    have e2 : (pre ++ [s]).length = pre.length + 1 := by simp
    refine (PA.bind (q := fun k n' d' => (Zm k).ast_Counter_Text_l1 xs depth ((pre ++ [s]).length : Int) n' d') (hx s (by rw [h]; simp) n d depth hn hdp) (fun hn1 => text_loop xs depth hdp hlen hx rest (pre ++ [s]) (by rw [h]; simp) _ _ ⟨by omega, hn1⟩)).congr (by rw [depSL]) (by rw [Z6a]) (by rw [WDSL]) (fun R hR => Ev.succ (Ev.of_eq hR fun k => ?_))
    show Z4s k _ xs depth _ n d = _
    unfold Z4s Zaf
    rw [Zew (by omega), hm]
    simp only [cond_true, Option.bind_some, St.eta, cond_n]
    rw [Z69 (by omega), ← e2]
    rfl
theorem text_pa {xs : List St} {depth : Int} (hdp : 0 ≤ depth ∧ depth ≤ 18) (hlen : xs.length < 9223372036854775808) (hx : ∀ s ∈ xs, PS s) {n d : Int} (hn : 0 ≤ n ∧ n ≤ 500) : PA n (depSL xs depth d) (Z6a xs) (WDSL xs depth) (fun k => Z1k k n d xs depth) :=
  (text_loop xs depth hdp hlen hx xs [] rfl n d hn).congr rfl rfl Iff.rfl (fun R hR => Ev.succ hR)
theorem stmts_loop (xs : List St) (depth : Int) (hdp : 0 ≤ depth ∧ depth ≤ 18) (hlen : xs.length < 9223372036854775808) (hx : ∀ s ∈ xs, RSt s) : ∀ (rest pre : List St), xs = pre ++ rest → ∀ n d : Int, 0 ≤ n ∧ n ≤ 500 →
    RB n (depSL rest depth d) (Z6a rest) (WDSL rest depth) (fun k => (Zk k).ref02_Size_Stmts_l1 xs depth (pre.length : Int) n d false)
  | [], pre, h, n, d, hn => by
    have e : Ev (fun k => (Zk k).ref02_Size_Stmts_l1 xs depth (pre.length : Int) n d false) (n, d, false) := by
      refine Ev.succ (Ev.now fun k => ?_)
      show Z33 k _ xs depth _ n d false = _
      unfold Z33 Z4l
      rw [dec_f (by rw [h]; simp)]; rfl
    have en : n + ((Z6a [] : Nat) : Int) = n := by simp [Z6a]
    exact ⟨fun _ => by rw [en, depSL]; exact e, fun hw => absurd ⟨by simp [WDSL], by rw [en]; exact hn.2⟩ hw⟩
  | s :: rest, pre, h, n, d, hn => by
    have hl : xs.length = pre.length + 1 + rest.length := by rw [h]; simp; omega
    have hm : at? xs (pre.length : Int) = some s := by rw [h]; exact at_mid _ _ _
    have e2 : (pre ++ [s]).length = pre.length + 1 := by simp
    refine (RB.bind (q := fun k n' d' w => (Zk k).ref02_Size_Stmts_l1 xs depth ((pre ++ [s]).length : Int) n' d' w) (hx s (by rw [h]; simp) n d depth hn hdp) (fun hn1 => stmts_loop xs depth hdp hlen hx rest (pre ++ [s]) (by rw [h]; simp) _ _ ⟨by omega, hn1⟩) (fun a b => ⟨a, b, stmts_loop_w _ _ _ _ _⟩)).congr (by rw [depSL]) (by rw [Z6a]) (by rw [WDSL]) (fun R hR => Ev.succ (Ev.of_eq hR fun k => ?_))
    show Z33 k _ xs depth _ n d false = _
    unfold Z33 Z4l Zal
    rw [Zew (by omega), hm]
    simp only [cond_true, Option.bind_some, Bool.not_false]
    rw [Z69 (by omega), ← e2]
    rfl
theorem stmts_ra {xs : List St} {depth : Int} (hdp : 0 ≤ depth ∧ depth ≤ 18) (hlen : xs.length < 9223372036854775808) (hx : ∀ s ∈ xs, RSt s) {n d : Int} (hn : 0 ≤ n ∧ n ≤ 500) : RB n (depSL xs depth d) (Z6a xs) (WDSL xs depth) (fun k => Z1c k n d false xs depth) :=
  (stmts_loop xs depth hdp hlen hx xs [] rfl n d hn).congr rfl rfl Iff.rfl (fun R hR => Ev.succ hR)
theorem exprs_pa {xs : List Ex} {depth : Int} (hdp : 0 ≤ depth ∧ depth ≤ 20) (hlen : xs.length < 9223372036854775808) (hf : fitsL xs) {n d : Int} (hn : 0 ≤ n ∧ n ≤ 500) : PA n (depL xs depth d) (Zb3 xs) (WDL xs depth) (fun k => Z23 k n d xs depth) :=
  (agree_exprs (dr := 0) hdp hlen (fun a ha => agree_expr a (fitsL_mem hf a ha)) hn).pa
theorem exprs_ra {xs : List Ex} {depth : Int} (hdp : 0 ≤ depth ∧ depth ≤ 20) (hlen : xs.length < 9223372036854775808) (hf : fitsL xs) {n d : Int} (hn : 0 ≤ n ∧ n ≤ 500) : RB n (depL xs depth d) (Zb3 xs) (WDL xs depth) (fun k => Z1b k n d false xs depth) :=
  (agree_exprs (d := 0) hdp hlen (fun a ha => agree_expr a (fitsL_mem hf a ha)) hn).ra
end Go.Proofs.YtkodnhngllfemaaGreatDoor
