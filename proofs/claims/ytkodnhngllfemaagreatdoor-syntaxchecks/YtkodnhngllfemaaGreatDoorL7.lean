import Derived.Test.YtkodnhngllfemaaGreatDoorL6
set_option linter.unusedVariables false
set_option linter.unusedSimpArgs false
namespace Go.Proofs.YtkodnhngllfemaaGreatDoor
open Go
theorem PA.head {n depth D : Int} {m : Nat} {W H : Prop} {c : Bool} {p q : Nat → Option (Bool × Int × Int)} (hc : c = true ↔ n < 500 ∧ depth ≤ 14 ∧ H) (hp : ∃ K a b, ∀ k, K ≤ k → p (k + 1) = bif c then q k else some (false, a, b)) (h : c = true → PA (n + 1) D m W q) :
    PA n D (m + 1) (H ∧ depth ≤ 14 ∧ W) p := by
  obtain ⟨K, a, b, hp⟩ := hp
  cases c with
  | true =>
    have h' := h rfl
    have hc' := hc.1 rfl
    have en : n + ((m + 1 : Nat) : Int) = n + 1 + m := by omega
    have go : ∀ R, Ev q R → Ev p R := by
      rintro R ⟨K2, hR⟩
      exact Ev.succ ⟨max K K2, fun k hk => (hp k (by omega)).trans (hR k (by omega))⟩
    refine ⟨fun hw => ?_, fun hw => ?_⟩
    · have e := h'.1 ⟨hw.1.2.2, by omega⟩
      rw [en]; exact go _ e
    · obtain ⟨a, b, e⟩ := h'.2 (fun h2 => hw ⟨⟨hc'.2.2, hc'.2.1, h2.1⟩, by omega⟩)
      exact ⟨a, b, go _ e⟩
  | false => exact ⟨fun hw => absurd (hc.2 ⟨by omega, hw.1.2.1, hw.1.1⟩) (by simp), fun _ => ⟨a, b, Ev.succ ⟨K, fun k hk => hp k hk⟩⟩⟩
theorem RB.head {n depth D : Int} {m : Nat} {W H : Prop} {c : Bool} {p : Nat → Option (Int × Int × Bool)} {q : Nat → Bool → Option (Int × Int × Bool)} (hc : c = true ↔ n < 500 ∧ depth ≤ 14 ∧ H) (hp : ∀ R, Ev (fun k => q k (!c)) R → Ev p R) (h : c = true → RB (n + 1) D m W (fun k => q k false))
    (hw : ∃ a b, Ev (fun k => q k true) (a, b, true)) : RB n D (m + 1) (H ∧ depth ≤ 14 ∧ W) p := by
  cases c with
  | true =>
    have h' := h rfl
    have hc' := hc.1 rfl
    have en : n + ((m + 1 : Nat) : Int) = n + 1 + m := by omega
    refine ⟨fun hw => ?_, fun hw => ?_⟩
    · have e := h'.1 ⟨hw.1.2.2, by omega⟩
      rw [en]; exact hp _ e
    · obtain ⟨a, b, e⟩ := h'.2 (fun h2 => hw ⟨⟨hc'.2.2, hc'.2.1, h2.1⟩, by omega⟩)
      exact ⟨a, b, hp _ e⟩
  | false =>
    obtain ⟨a, b, e⟩ := hw
    exact ⟨fun hw => absurd (hc.2 ⟨by omega, hw.1.2.1, hw.1.1⟩) (by simp), fun _ => ⟨a, b, hp _ e⟩⟩
theorem prog_arm {a : Ar} {op n d depth : Int} (hop : op = 3 ∨ op = 4) (hn : 0 ≤ n ∧ n ≤ 500) (hl : a.labels.length < 9223372036854775808) :
    ∃ K x y, ∀ k, K ≤ k → Zha (k + 1) n d a op depth = bif (decide (n < 500) && decide (depth ≤ 14)) && headA a op then Z5e k (Zm k) a depth (n + 1) (imax d depth) else some (false, x, y) := by
  obtain ⟨K, h⟩ := labels_ok hl
  refine ⟨K, n + 1, imax d depth, fun k hk => ?_⟩
  have i1 := h k hk
  show Z9m k (Zm k) n d a op depth = _
  unfold Z9m Z8s Zbs Z2o headA
  simp only [add_ok k n d depth hn, i1, Option.bind_some, pos_eq, bne]
  generalize Z5e k (Zm k) a depth (n + 1) (imax d depth) = R
  rcases hop with rfl | rfl
  · have b3 : ((3 : Int) == 3) = true := rfl
    have b4 : ((3 : Int) == 4) = false := rfl
    simp only [b3, b4]
    cases decide (n < 500) && decide (depth ≤ 14) <;> cases a.labels.all labB <;> cases ((a.cond.length : Int) == 1) <;> cases ((a.labels.length : Int) == 0) <;> rfl
  · have b3 : ((4 : Int) == 3) = false := rfl
    have b4 : ((4 : Int) == 4) = true := rfl
    simp only [b3, b4]
    cases decide (n < 500) && decide (depth ≤ 14) <;> cases a.labels.all labB <;> cases ((a.cond.length : Int) == 0) <;> cases ((a.labels.length : Int) == 0) <;> rfl
theorem band3 {n depth : Int} {b : Bool} : ((decide (n < 500) && decide (depth ≤ 14)) && b) = true ↔ n < 500 ∧ depth ≤ 14 ∧ b = true := by simp [and_assoc]
theorem arm_pa (a : Ar) (hf : a.fits) (hx : ∀ s ∈ a.body, PS s) : PAr a := by
  obtain ⟨cond, labels, body⟩ := a
  rw [Ar.fits] at hf
  intro op n d depth hop hn hdp
  refine (PA.head (m := Zb3 cond + Z6a body) (W := WDL cond (depth + 1) ∧ WDSL body (depth + 1)) (H := headA (.mk cond labels body) op = true) band3 (prog_arm (a := .mk cond labels body) hop hn hf.2.1.1) (fun hc => ?_)).congr (by rw [Ar.dep]) (by rw [Ar.nodes]) (by rw [WDA]) (fun R hR => hR)
  have hc' := band3.1 hc
  refine (PA.bind (q := fun k n' d' => Z1k k n' d' body (depth + 1)) (exprs_pa (n := n + 1) (d := imax d depth) (depth := depth + 1) ⟨by omega, by omega⟩ hf.1.1 hf.1.2 ⟨by omega, by omega⟩) (fun hn1 => text_pa ⟨by omega, by omega⟩ hf.2.2.1 hx ⟨by omega, hn1⟩)).congr rfl rfl Iff.rfl (fun R hR => Ev.of_eq hR fun k => ?_)
  show Z5e k (Zm k) (.mk cond labels body) depth (n + 1) (imax d depth) = _
  unfold Z5e
  simp only [Zfy]
  rw [Zaz (n := depth + 1) (by omega) (by omega)]
  rfl
def contA (k : Nat) (a : Ar) (depth n d : Int) (w : Bool) : Option (Int × Int × Bool) := (Z1b k n d w a.cond (depth + 1)).bind fun r => Z1c k r.1 r.2.1 r.2.2 a.body (depth + 1)
theorem ref_labels {a : Ar} {depth n d : Int} {w0 : Bool} (hdp : 0 ≤ depth ∧ depth ≤ 18) (hl : a.labels.length < 9223372036854775808) : ∀ (rest pre : List Int), a.labels = pre ++ rest → ∀ (w : Bool) R,
    Ev (fun k => contA k a depth n d (w || !rest.all labB)) R → Ev (fun k => (Zk k).ref02_Size_arm_l2 a depth (n, d, w0) (pre.length : Int) w) R
  | [], pre, h, w, R, hR => by
    refine Ev.succ (Ev.of_eq hR fun k => ?_)
    show Z3t k _ a depth (n, d, w0) _ w = _
    unfold Z3t Z61 contA
    rw [dec_f (by rw [h]; simp)]
    simp only [cond_false, Zfy, List.all_nil, Bool.not_true, Bool.or_false]
    rw [Zaz (n := depth + 1) (by omega) (by omega)]
    rfl
  | x :: rest, pre, h, w, R, hR => by
    have hll : a.labels.length = pre.length + 1 + rest.length := by rw [h]; simp; omega
    have hm : at? a.labels (pre.length : Int) = some x := by rw [h]; exact at_mid _ _ _
    have e2 : (pre ++ [x]).length = pre.length + 1 := by simp
    cases w with
    | true =>
      refine Ev.succ (Ev.of_eq hR fun k => ?_)
      show Z3t k _ a depth (n, d, w0) _ true = _
      unfold Z3t Z61 contA
      rw [Zew (by omega)]
      simp only [cond_true, cond_false, Zfy, Bool.not_true, Bool.true_or]
      rw [Zaz (n := depth + 1) (by omega) (by omega)]
      rfl
    | false =>
      have hn := ref_labels (w0 := w0) hdp hl rest (pre ++ [x]) (by rw [h]; simp) (false || !labB x) R (by
        refine hR.of_eq fun k => ?_
        rw [List.all_cons]
        cases labB x <;> rfl)
      refine Ev.succ (Ev.of_eq hn fun k => ?_)
      show Z3t k _ a depth (n, d, w0) _ false = _
      unfold Z3t Z61 Zcl
      rw [Zew (by omega), hm]
      simp only [cond_true, Bool.not_false, Option.bind_some, refLabel_ok, Zgy]
      rw [Z69 (by omega), ← e2]
theorem ref_arm {a : Ar} {op n d depth : Int} (hop : op = 3 ∨ op = 4) (hn : 0 ≤ n ∧ n ≤ 500) (hdp : 0 ≤ depth ∧ depth ≤ 18) (hl : a.labels.length < 9223372036854775808) (R : Int × Int × Bool) :
    Ev (fun k => contA k a depth (n + 1) (imax d depth) (!((decide (n < 500) && decide (depth ≤ 14)) && headA a op))) R → Ev (fun k => F_ref02_Size_arm k n d false a (op == 3) depth) R := by
  intro hR
  have hlen : (bif op == 3 then (a.cond.length : Int) == 1 && (a.labels.length : Int) == 0 else (a.cond.length : Int) == 0 && !((a.labels.length : Int) == 0)) = (bif op == 3 then (a.cond.length : Int) == 1 && (a.labels.length : Int) == 0 else (a.cond.length : Int) == 0 && !((a.labels.length : Int) == 0)) := rfl
  have h2 := ref_labels (a := a) (depth := depth) (n := n + 1) (d := imax d depth) (w0 := !(decide (n < 500) && decide (depth ≤ 14))) hdp hl a.labels [] rfl
    (!(decide (n < 500) && decide (depth ≤ 14)) || !(bif op == 3 then (a.cond.length : Int) == 1 && (a.labels.length : Int) == 0 else (a.cond.length : Int) == 0 && !((a.labels.length : Int) == 0))) R (by
      refine hR.of_eq fun k => ?_
      unfold headA
      congr 1
      cases decide (n < 500) && decide (depth ≤ 14) <;> cases (bif op == 3 then (a.cond.length : Int) == 1 && (a.labels.length : Int) == 0 else (a.cond.length : Int) == 0 && !((a.labels.length : Int) == 0)) <;> cases a.labels.all labB <;> rfl)
  refine Ev.succ (Ev.of_eq h2 fun k => ?_)
  show Zau k (Zk k) n d false a (op == 3) depth = _
  unfold Zau Z2c
  simp only [node_ok k n d depth hn, Option.bind_some, Zgy, pos_eq]
  rcases hop with rfl | rfl
  · have b3 : ((3 : Int) == 3) = true := rfl
    simp only [b3]
    cases ((a.cond.length : Int) == 1) <;> cases ((a.labels.length : Int) == 0) <;> rfl
  · have b3 : ((4 : Int) == 3) = false := rfl
    simp only [b3]
    cases ((a.cond.length : Int) == 0) <;> cases ((a.labels.length : Int) == 0) <;> rfl
theorem arm_rb (a : Ar) (hf : a.fits) (hx : ∀ s ∈ a.body, RSt s) : RAr a := by
  obtain ⟨cond, labels, body⟩ := a
  rw [Ar.fits] at hf
  intro op n d depth hop hn hdp
  refine (RB.head (m := Zb3 cond + Z6a body) (W := WDL cond (depth + 1) ∧ WDSL body (depth + 1)) (H := headA (.mk cond labels body) op = true) (q := fun k w => contA k (.mk cond labels body) depth (n + 1) (imax d depth) w) band3 (fun R hR => ref_arm (a := .mk cond labels body) hop hn hdp hf.2.1.1 R hR) (fun hc => ?_) ?_).congr (by rw [Ar.dep]) (by rw [Ar.nodes]) (by rw [WDA]) (fun R hR => hR)
  · have hc' := band3.1 hc
    exact RB.bind (q := fun k n' d' w => Z1c k n' d' w body (depth + 1)) (exprs_ra (n := n + 1) (d := imax d depth) (depth := depth + 1) ⟨by omega, by omega⟩ hf.1.1 hf.1.2 ⟨by omega, by omega⟩) (fun hn1 => stmts_ra ⟨by omega, by omega⟩ hf.2.2.1 hx ⟨by omega, hn1⟩) (fun a b => ⟨a, b, stmts_w _ _ _ _⟩)
  · exact ⟨_, _, Ev.bind (g := fun k (r : Int × Int × Bool) => Z1c k r.1 r.2.1 r.2.2 body (depth + 1)) (exprs_w cond (depth + 1) (n + 1) (imax d depth)) (stmts_w body (depth + 1) (n + 1) (imax d depth))⟩
theorem arms_pa {s : St} {depth : Int} (hdp : 0 ≤ depth ∧ depth ≤ 14) (hop : s.arms ≠ [] → s.op = 3 ∨ s.op = 4) (hlen : s.arms.length < 9223372036854775808) (hx : ∀ a ∈ s.arms, PAr a) (m : Nat) (W : Prop) (E : Int → Int)
    (hq : ∀ n d, 0 ≤ n ∧ n ≤ 500 → PA n (E d) m W (fun k => (Z23 k n d s.index (depth + 1)).bind fun r => bif r.1 then (Z23 k r.2.1 r.2.2 s.args (depth + 1)).bind fun r => bif r.1 then (Z1k k r.2.1 r.2.2 s.body (depth + 1)).bind fun r => bif r.1 then Z1k k r.2.1 r.2.2 s.other (depth + 1) else some (false, r.2.1, r.2.2) else some (false, r.2.1, r.2.2) else some (false, r.2.1, r.2.2))) :
    ∀ (rest pre : List Ar), s.arms = pre ++ rest → ∀ n d : Int, 0 ≤ n ∧ n ≤ 500 → PA n (E (depAL rest (depth + 1) d)) (Zh8 rest + m) (WDAL rest s.op (depth + 1) ∧ W) (fun k => (Zm k).ast_Counter_stmt_l9 s depth (pre.length : Int) n d)
  | [], pre, h, n, d, hn => by
    refine (hq n d hn).congr (by rw [depAL]) (by simp [Zh8]) (by simp [WDAL]) (fun R hR => Ev.succ (Ev.of_eq hR fun k => ?_))
    show Z4t k _ s depth _ n d = _
    unfold Z4t
    rw [dec_f (by rw [h]; simp)]
    simp only [cond_false, Zfy]
    rw [Zaz (n := depth + 1) (by omega) (by omega)]
    rfl
  | a :: rest, pre, h, n, d, hn => by
    have hl : s.arms.length = pre.length + 1 + rest.length := by rw [h]; simp; omega
    have hm : at? s.arms (pre.length : Int) = some a := by rw [h]; exact at_mid _ _ _
    have e2 : (pre ++ [a]).length = pre.length + 1 := by simp
    refine (PA.bind (q := fun k n' d' => (Zm k).ast_Counter_stmt_l9 s depth ((pre ++ [a]).length : Int) n' d') (hx a (by rw [h]; simp) s.op n d (depth + 1) (hop (by rw [h]; simp)) hn ⟨by omega, by omega⟩)
      (fun hn1 => arms_pa hdp hop hlen hx m W E hq rest (pre ++ [a]) (by rw [h]; simp) _ _ ⟨by omega, hn1⟩)).congr (by rw [depAL]) (by rw [Zh8]; omega) (by rw [WDAL, and_assoc]) (fun R hR => Ev.succ (Ev.of_eq hR fun k => ?_))
    show Z4t k _ s depth _ n d = _
    unfold Z4t Z9r
    rw [Zew (by omega), hm]
    simp only [cond_true, Option.bind_some, Ar.eta, cond_n]
    rw [Z69 (by omega), ← e2, Zaz (n := depth + 1) (by omega) (by omega)]
    rfl
theorem arms_only {s : St} (h : headS s = true) : s.arms ≠ [] → s.op = 3 ∨ s.op = 4 := by
  intro hne
  have hl : ((s.arms.length : Int) == 0) = false := beq_f (by have := List.length_pos_iff.2 hne; omega)
  apply Classical.byContradiction
  intro hno
  have o3 : (s.op == 3) = false := beq_f (fun e => hno (.inl e))
  have o4 : (s.op == 4) = false := beq_f (fun e => hno (.inr e))
  have h6 : ∀ b, st6 s b = false := by
    intro b
    unfold st6
    rw [o3, o4, hl]
    simp
  unfold headS at h
  simp only [h6, o3, o4, Bool.and_false, cond_false] at h
  revert h
  cases s.op == 1 <;> cases s.op == 2 <;> cases s.op == 5 <;> cases (s.op == 6 || s.op == 7) <;> simp
theorem nodesL_len : ∀ l : List Ex, l.length ≤ Zb3 l
  | [] => Nat.le_refl _
  | x :: l => by rw [Zb3, List.length_cons]; have := nodesL_len l; cases x; rw [Ex.nodes]; omega
theorem stmt_pa (s : St) : s.fits → PS s := by
  induction s using St.ind (Q := fun a => a.fits → PAr a) with
  | hs op name index fields args n0 body arms other els h1 h2 h3 =>
    intro hf
    rw [St.fits] at hf
    obtain ⟨-, f1, f2, f3, f4, f5, f6, f7⟩ := hf
    intro n d depth hn hdp
    have hnn : (St.mk op name index fields args n0 body arms other els).nodes = Zh8 arms + (Zb3 index + (Zb3 args + (Z6a body + Z6a other))) + 1 := by rw [St.nodes]
    obtain ⟨K, a, b, hp⟩ := prog_stmt (s := .mk op name index fields args n0 body arms other els) (n := n) (d := d) (depth := depth) hn f1 f3.2 f3.1
    rw [head_eq] at hp
    by_cases h501 : (args.length : Int) ≤ 501
    · have e501 : decide ((((St.mk op name index fields args n0 body arms other els).args.length : Nat) : Int) ≤ 501) = true := decide_eq_true h501
      rw [e501, Bool.and_true] at hp
      refine (PA.head (m := Zh8 arms + (Zb3 index + (Zb3 args + (Z6a body + Z6a other)))) (W := WDAL arms op (depth + 1) ∧ WDL index (depth + 1) ∧ WDL args (depth + 1) ∧ WDSL body (depth + 1) ∧ WDSL other (depth + 1)) (H := headS (.mk op name index fields args n0 body arms other els) = true) band3 ⟨K, a, b, hp⟩ (fun hc => ?_)).congr (by rw [St.dep]) hnn.symm (by rw [WDS]) (fun R hR => hR)
      have hc' := band3.1 hc
      refine (arms_pa (s := .mk op name index fields args n0 body arms other els) (depth := depth) ⟨hdp.1, hc'.2.1⟩ (arms_only hc'.2.2) f6.1 (fun a ha => h2 a ha (fitsAL_mem f6.2 a ha)) _ _ (fun d => depSL other (depth + 1) (depSL body (depth + 1) (depL args (depth + 1) (depL index (depth + 1) d)))) (fun n' d' hn' => ?_) arms [] rfl (n + 1) (imax d depth) ⟨by omega, by omega⟩).congr rfl rfl Iff.rfl (fun R hR => hR)
      have hd1 : 0 ≤ depth + 1 ∧ depth + 1 ≤ 18 := ⟨by omega, by omega⟩
      exact PA.bind (q := fun k n d => (Z23 k n d args (depth + 1)).bind fun r => bif r.1 then (Z1k k r.2.1 r.2.2 body (depth + 1)).bind fun r => bif r.1 then Z1k k r.2.1 r.2.2 other (depth + 1) else some (false, r.2.1, r.2.2) else some (false, r.2.1, r.2.2)) (exprs_pa ⟨by omega, by omega⟩ f2.1 f2.2 hn') (fun g1 =>
        PA.bind (q := fun k n d => (Z1k k n d body (depth + 1)).bind fun r => bif r.1 then Z1k k r.2.1 r.2.2 other (depth + 1) else some (false, r.2.1, r.2.2)) (exprs_pa ⟨by omega, by omega⟩ f4.1 f4.2 ⟨by omega, g1⟩) (fun g2 =>
          PA.bind (q := fun k n d => Z1k k n d other (depth + 1)) (text_pa hd1 f5.1 (fun s hs => h1 s hs (Z4w f5.2 s hs)) ⟨by omega, g2⟩) (fun g3 => text_pa hd1 f7.1 (fun s hs => h3 s hs (Z4w f7.2 s hs)) ⟨by omega, g3⟩)))
    · have e501 : decide ((((St.mk op name index fields args n0 body arms other els).args.length : Nat) : Int) ≤ 501) = false := decide_eq_false h501
      rw [e501, Bool.and_false, Bool.and_false] at hp
      have := nodesL_len args
      exact ⟨fun hw => absurd hw.2 (by rw [hnn]; omega), fun _ => ⟨a, b, Ev.succ ⟨K, fun k hk => hp k hk⟩⟩⟩
  | ha cond labels body h hf =>
    exact arm_pa _ hf (fun s hs => h s hs (Z4w (by rw [Ar.fits] at hf; exact hf.2.2.2) s hs))
theorem Zc6 (a b c : Int) : imax (imax a b) c = imax a (imax b c) := by
  unfold imax
  repeat' split
  all_goals omega
theorem imax_comm (a b : Int) : imax a b = imax b a := by
  unfold imax
  repeat' split
  all_goals omega
theorem imax_self (a : Int) : imax a a = a := by unfold imax; split <;> rfl
def Hom (f : Int → Int) : Prop := ∀ a b, f (imax a b) = imax a (f b)
theorem Hom.comm {f g : Int → Int} (hf : Hom f) (hg : Hom g) (d : Int) : f (g d) = g (f d) := by
  have h1 : g d = imax (g d) d := by
    have := hg d d
    rw [imax_self] at this
    rw [this, Zc6, imax_comm (g d) d, ← Zc6, imax_self]
  have h2 : f d = imax (f d) d := by
    have := hf d d
    rw [imax_self] at this
    rw [this, Zc6, imax_comm (f d) d, ← Zc6, imax_self]
  have e1 : f (g d) = imax (g d) (f d) := by rw [← hf, ← h1]
  have e2 : g (f d) = imax (f d) (g d) := by rw [← hg, ← h2]
  rw [e1, e2, imax_comm]
theorem hom_depL (l : List Ex) : (∀ x ∈ l, ∀ depth, Hom (x.dep depth)) → ∀ depth, Hom (depL l depth) := by
  induction l with
  | nil => intro _ depth a b; rw [depL, depL]
  | cons x l ih =>
    intro h depth a b
    rw [depL, depL, h x (by simp), ih (fun y hy => h y (by simp [hy]))]
theorem hom_dep (x : Ex) : ∀ depth, Hom (x.dep depth) := by
  induction x using Ex.ind with
  | h op kind n s f args ih =>
    intro depth a b
    rw [Ex.dep, Ex.dep, Zc6, hom_depL args ih]
theorem hom_depL' (l : List Ex) (depth : Int) : Hom (depL l depth) := hom_depL l (fun x _ => hom_dep x) depth
theorem hom_depSL (l : List St) : (∀ x ∈ l, ∀ depth, Hom (x.dep depth)) → ∀ depth, Hom (depSL l depth) := by
  induction l with
  | nil => intro _ depth a b; rw [depSL, depSL]
  | cons x l ih =>
    intro h depth a b
    rw [depSL, depSL, h x (by simp), ih (fun y hy => h y (by simp [hy]))]
theorem hom_depAL (l : List Ar) : (∀ x ∈ l, ∀ depth, Hom (x.dep depth)) → ∀ depth, Hom (depAL l depth) := by
  induction l with
  | nil => intro _ depth a b; rw [depAL, depAL]
  | cons x l ih =>
    intro h depth a b
    rw [depAL, depAL, h x (by simp), ih (fun y hy => h y (by simp [hy]))]
theorem hom_dep_st (s : St) : ∀ depth, Hom (s.dep depth) := by
  induction s using St.ind (Q := fun a => ∀ depth, Hom (a.dep depth)) with
  | hs op name index fields args n0 body arms other els h1 h2 h3 =>
    intro depth a b
    rw [St.dep, St.dep, Zc6, hom_depAL arms h2, hom_depL' index, hom_depL' args, hom_depSL body h1, hom_depSL other h3]
  | ha cond labels body h depth =>
    intro a b
    rw [Ar.dep, Ar.dep, Zc6, hom_depL' cond, hom_depSL body h]
theorem hom_dep_ar (a : Ar) : ∀ depth, Hom (a.dep depth) := by
  obtain ⟨cond, labels, body⟩ := a
  intro depth a b
  rw [Ar.dep, Ar.dep, Zc6, hom_depL' cond, hom_depSL body fun s _ => hom_dep_st s]
theorem ref_order (index args : List Ex) (body : List St) (arms : List Ar) (other : List St) (els : Bool) (op : Int) (name : ByteArray) (fields : List ByteArray) (n0 depth d : Int) :
    depSL other (depth + 1) (depAL arms (depth + 1) (depSL body (depth + 1) (depL args (depth + 1) (depL index (depth + 1) (imax d depth))))) = (St.mk op name index fields args n0 body arms other els).dep depth d := by
  unfold St.dep
  have ha := hom_depAL arms (fun a _ => hom_dep_ar a) (depth + 1)
  rw [Hom.comm ha (hom_depSL body (fun s _ => hom_dep_st s) (depth + 1)), Hom.comm ha (hom_depL' args (depth + 1)), Hom.comm ha (hom_depL' index (depth + 1))]
def contS (k : Nat) (s : St) (depth n d : Int) (w : Bool) : Option (Int × Int × Bool) := (Z1b k n d w s.index (depth + 1)).bind fun r => (Z1b k r.1 r.2.1 r.2.2 s.args (depth + 1)).bind fun r => (Z1c k r.1 r.2.1 r.2.2 s.body (depth + 1)).bind fun r => (Zk k).ref02_Size_stmt_l8 s depth 0 r.1 r.2.1 r.2.2
theorem arms_w (s : St) (depth n d i : Int) (hdp : 0 ≤ depth ∧ depth ≤ 18) : Ev (fun k => (Zk k).ref02_Size_stmt_l8 s depth i n d true) (n, d, true) := by
  refine Ev.succ (Ev.of_eq (stmts_w s.other (depth + 1) n d) fun k => ?_)
  show Z3i k _ s depth i n d true = _
  unfold Z3i Z5a
  rw [Zaz (n := depth + 1) (by omega) (by omega)]
  cases decide (i < (s.arms.length : Int)) <;> exact Zfy _
theorem arms_rb {s : St} {depth : Int} (hdp : 0 ≤ depth ∧ depth ≤ 14) (hop : s.arms ≠ [] → s.op = 3 ∨ s.op = 4) (hlen : s.arms.length < 9223372036854775808) (hx : ∀ a ∈ s.arms, RAr a) (hol : s.other.length < 9223372036854775808) (ho : ∀ x ∈ s.other, RSt x) :
    ∀ (rest pre : List Ar), s.arms = pre ++ rest → ∀ n d : Int, 0 ≤ n ∧ n ≤ 500 → RB n (depSL s.other (depth + 1) (depAL rest (depth + 1) d)) (Zh8 rest + Z6a s.other) (WDAL rest s.op (depth + 1) ∧ WDSL s.other (depth + 1)) (fun k => (Zk k).ref02_Size_stmt_l8 s depth (pre.length : Int) n d false)
  | [], pre, h, n, d, hn => by
    refine (stmts_ra (depth := depth + 1) (d := d) ⟨by omega, by omega⟩ hol ho hn).congr (by rw [depAL]) (by simp [Zh8]) (by simp [WDAL]) (fun R hR => Ev.succ (Ev.of_eq hR fun k => ?_))
    show Z3i k _ s depth _ n d false = _
    unfold Z3i Z5a
    rw [dec_f (by rw [h]; simp)]
    simp only [cond_false, Zfy]
    rw [Zaz (n := depth + 1) (by omega) (by omega)]
    rfl
  | a :: rest, pre, h, n, d, hn => by
    have hl : s.arms.length = pre.length + 1 + rest.length := by rw [h]; simp; omega
    have hm : at? s.arms (pre.length : Int) = some a := by rw [h]; exact at_mid _ _ _
    have e2 : (pre ++ [a]).length = pre.length + 1 := by simp
    refine (RB.bind (q := fun k n' d' w => (Zk k).ref02_Size_stmt_l8 s depth ((pre ++ [a]).length : Int) n' d' w) (hx a (by rw [h]; simp) s.op n d (depth + 1) (hop (by rw [h]; simp)) hn ⟨by omega, by omega⟩)
      (fun hn1 => arms_rb hdp hop hlen hx hol ho rest (pre ++ [a]) (by rw [h]; simp) _ _ ⟨by omega, hn1⟩) (fun a b => ⟨a, b, arms_w _ _ _ _ _ ⟨hdp.1, by omega⟩⟩)).congr (by rw [depAL]) (by rw [Zh8]; omega) (by rw [WDAL, and_assoc]) (fun R hR => Ev.succ (Ev.of_eq hR fun k => ?_))
    show Z3i k _ s depth _ n d false = _
    unfold Z3i Z5a Zao
    rw [Zew (by omega), hm]
    simp only [cond_true, Option.bind_some, Bool.not_false]
    rw [Z69 (by omega), ← e2, Zaz (n := depth + 1) (by omega) (by omega)]
    rfl
theorem stmt_rb (s : St) : s.fits → RSt s := by
  induction s using St.ind (Q := fun a => a.fits → RAr a) with
  | hs op name index fields args n0 body arms other els h1 h2 h3 =>
    intro hf
    rw [St.fits] at hf
    obtain ⟨-, f1, f2, f3, f4, f5, f6, f7⟩ := hf
    intro n d depth hn hdp
    have hnn : (St.mk op name index fields args n0 body arms other els).nodes = Zb3 index + (Zb3 args + (Z6a body + (Zh8 arms + Z6a other))) + 1 := by rw [St.nodes]; omega
    obtain ⟨K, hp⟩ := ref_stmt (s := .mk op name index fields args n0 body arms other els) (n := n) (d := d) (depth := depth) hn f1 f3.2 f3.1
    have hd1 : depth ≤ 14 → 0 ≤ depth + 1 ∧ depth + 1 ≤ 18 := fun h => ⟨by omega, by omega⟩
    refine (RB.head (m := Zb3 index + (Zb3 args + (Z6a body + (Zh8 arms + Z6a other)))) (W := WDL index (depth + 1) ∧ WDL args (depth + 1) ∧ WDSL body (depth + 1) ∧ WDAL arms op (depth + 1) ∧ WDSL other (depth + 1)) (H := headS (.mk op name index fields args n0 body arms other els) = true)
      (q := fun k w => contS k (.mk op name index fields args n0 body arms other els) depth (n + 1) (imax d depth) w) band3 ?_ (fun hc => ?_) ?_).congr (ref_order index args body arms other els op name fields n0 depth d) hnn.symm (by rw [WDS]; constructor <;> (rintro ⟨a1, a2, a3, a4, a5, a6, a7⟩; exact ⟨a1, a2, by assumption, by assumption, by assumption, by assumption, by assumption⟩)) (fun R hR => hR)
    · rintro R ⟨K2, hR⟩
      refine Ev.succ ⟨max K K2, fun k hk => (hp k (by omega)).trans (Eq.trans ?_ (hR k (by omega)))⟩
      unfold Z0j contS
      have e : (!(decide (n < 500) && decide (depth ≤ 14)) || !headS (.mk op name index fields args n0 body arms other els)) = !((decide (n < 500) && decide (depth ≤ 14)) && headS (.mk op name index fields args n0 body arms other els)) := by
        cases decide (n < 500) && decide (depth ≤ 14) <;> rfl
      rw [e, Zaz (n := depth + 1) (by omega) (by omega)]
      rfl
    · have hc' := band3.1 hc
      exact RB.bind (q := fun k n d w => (Z1b k n d w args (depth + 1)).bind fun r => (Z1c k r.1 r.2.1 r.2.2 body (depth + 1)).bind fun r => (Zk k).ref02_Size_stmt_l8 (.mk op name index fields args n0 body arms other els) depth 0 r.1 r.2.1 r.2.2) (exprs_ra ⟨by omega, by omega⟩ f2.1 f2.2 ⟨by omega, by omega⟩) (fun g1 =>
        RB.bind (q := fun k n d w => (Z1c k n d w body (depth + 1)).bind fun r => (Zk k).ref02_Size_stmt_l8 (.mk op name index fields args n0 body arms other els) depth 0 r.1 r.2.1 r.2.2) (exprs_ra ⟨by omega, by omega⟩ f4.1 f4.2 ⟨by omega, g1⟩) (fun g2 =>
          RB.bind (q := fun k n d w => (Zk k).ref02_Size_stmt_l8 (.mk op name index fields args n0 body arms other els) depth 0 n d w) (stmts_ra (hd1 hc'.2.1) f5.1 (fun s hs => h1 s hs (Z4w f5.2 s hs)) ⟨by omega, g2⟩) (fun g3 =>
            arms_rb (s := .mk op name index fields args n0 body arms other els) (depth := depth) ⟨hdp.1, hc'.2.1⟩ (arms_only hc'.2.2) f6.1 (fun a ha => h2 a ha (fitsAL_mem f6.2 a ha)) f7.1 (fun s hs => h3 s hs (Z4w f7.2 s hs)) arms [] rfl _ _ ⟨by omega, g3⟩) (fun a b => ⟨a, b, arms_w _ _ _ _ _ hdp⟩))
          (fun a b => ⟨a, b, Ev.bind (g := fun k (r : Int × Int × Bool) => (Zk k).ref02_Size_stmt_l8 (.mk op name index fields args n0 body arms other els) depth 0 r.1 r.2.1 r.2.2) (stmts_w body _ a b) (arms_w _ _ _ _ _ hdp)⟩))
        (fun a b => ⟨a, b, Ev.bind (g := fun k (r : Int × Int × Bool) => (Z1c k r.1 r.2.1 r.2.2 body (depth + 1)).bind fun r => (Zk k).ref02_Size_stmt_l8 (.mk op name index fields args n0 body arms other els) depth 0 r.1 r.2.1 r.2.2) (exprs_w args _ a b) (Ev.bind (g := fun k (r : Int × Int × Bool) => (Zk k).ref02_Size_stmt_l8 (.mk op name index fields args n0 body arms other els) depth 0 r.1 r.2.1 r.2.2) (stmts_w body _ a b) (arms_w _ _ _ _ _ hdp))⟩)
    · exact ⟨n + 1, imax d depth, Ev.bind (g := fun k (r : Int × Int × Bool) => (Z1b k r.1 r.2.1 r.2.2 args (depth + 1)).bind fun r => (Z1c k r.1 r.2.1 r.2.2 body (depth + 1)).bind fun r => (Zk k).ref02_Size_stmt_l8 (.mk op name index fields args n0 body arms other els) depth 0 r.1 r.2.1 r.2.2) (exprs_w index _ _ _) (Ev.bind (g := fun k (r : Int × Int × Bool) => (Z1c k r.1 r.2.1 r.2.2 body (depth + 1)).bind fun r => (Zk k).ref02_Size_stmt_l8 (.mk op name index fields args n0 body arms other els) depth 0 r.1 r.2.1 r.2.2) (exprs_w args _ _ _) (Ev.bind (g := fun k (r : Int × Int × Bool) => (Zk k).ref02_Size_stmt_l8 (.mk op name index fields args n0 body arms other els) depth 0 r.1 r.2.1 r.2.2) (stmts_w body _ _ _) (arms_w _ _ _ _ _ hdp)))⟩
  | ha cond labels body h hf =>
    exact arm_rb _ hf (fun s hs => h s hs (Z4w (by rw [Ar.fits] at hf; exact hf.2.2.2) s hs))
theorem text_both {l : List St} (hl : l.length < 9223372036854775808) (hf : fitsSL l) : (Ev (fun k => Z1k k 0 0 l 1) (true, (Z6a l : Int), depSL l 1 0) ∧ Ev (fun k => Z1c k 0 0 false l 1) ((Z6a l : Int), depSL l 1 0, false) ∧ WDSL l 1 ∧ Z6a l ≤ 500) ∨
    ∃ a b a' b', Ev (fun k => Z1k k 0 0 l 1) (false, a, b) ∧ Ev (fun k => Z1c k 0 0 false l 1) (a', b', true) := by
  have h1 := text_pa (depth := 1) (n := 0) (d := 0) ⟨by omega, by omega⟩ hl (fun s hs => stmt_pa s (Z4w hf s hs)) ⟨by omega, by omega⟩
  have h2 := stmts_ra (depth := 1) (n := 0) (d := 0) ⟨by omega, by omega⟩ hl (fun s hs => stmt_rb s (Z4w hf s hs)) ⟨by omega, by omega⟩
  by_cases hw : WDSL l 1 ∧ (0 : Int) + (Z6a l : Nat) ≤ 500
  · have q1 := h1.1 hw
    have q2 := h2.1 hw
    rw [Int.zero_add] at q1 q2
    exact .inl ⟨q1, q2, hw.1, by omega⟩
  · obtain ⟨a, b, q1⟩ := h1.2 hw
    obtain ⟨a', b', q2⟩ := h2.2 hw
    exact .inr ⟨a, b, a', b', q1, q2⟩
end Go.Proofs.YtkodnhngllfemaaGreatDoor
