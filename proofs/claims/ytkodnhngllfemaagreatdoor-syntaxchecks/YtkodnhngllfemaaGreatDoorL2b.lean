import Derived.Test.YtkodnhngllfemaaGreatDoorL2
set_option linter.unusedVariables false
set_option linter.unusedSimpArgs false
namespace Go.Proofs.YtkodnhngllfemaaGreatDoor
open Go
mutual
def WD : Ex → Int → Prop
  | .mk op kind n s f args, d => headE (.mk op kind n s f args) = true ∧ d ≤ 14 ∧ WDL args (d + 1)
def WDL : List Ex → Int → Prop
  | [], _ => True
  | x :: l, d => WD x d ∧ WDL l d
end
mutual
def Ex.dep : Ex → Int → Int → Int
  | .mk _ _ _ _ _ args, depth, d => depL args (depth + 1) (imax d depth)
def depL : List Ex → Int → Int → Int
  | [], _, d => d
  | x :: l, depth, d => depL l depth (x.dep depth d)
end
def Agree (n d1 d2 : Int) (m : Nat) (W : Prop) (p : Nat → Option (Bool × Int × Int)) (r : Nat → Option (Int × Int × Bool)) : Prop :=
  (W ∧ n + m ≤ 500 → Ev p (true, n + m, d1) ∧ Ev r (n + m, d2, false)) ∧ (¬ (W ∧ n + m ≤ 500) → ∃ a b a' b', Ev p (false, a, b) ∧ Ev r (a', b', true))
theorem Agree.cases {n d1 d2 : Int} {m : Nat} {W : Prop} {p : Nat → Option (Bool × Int × Int)} {r : Nat → Option (Int × Int × Bool)} (h : Agree n d1 d2 m W p r) :
    (W ∧ n + m ≤ 500 ∧ Ev p (true, n + m, d1) ∧ Ev r (n + m, d2, false)) ∨ (¬ (W ∧ n + m ≤ 500) ∧ ∃ a b a' b', Ev p (false, a, b) ∧ Ev r (a', b', true)) := by
  by_cases hw : W ∧ n + m ≤ 500
  · exact .inl ⟨hw.1, hw.2, h.1 hw⟩
  · exact .inr ⟨hw, h.2 hw⟩
theorem Agree.yes {n d1 d2 : Int} {m : Nat} {W : Prop} {p : Nat → Option (Bool × Int × Int)} {r : Nat → Option (Int × Int × Bool)} (hw : W) (hn : n + m ≤ 500) (h : Ev p (true, n + m, d1) ∧ Ev r (n + m, d2, false)) : Agree n d1 d2 m W p r := ⟨fun _ => h, fun h' => absurd ⟨hw, hn⟩ h'⟩
theorem Agree.no {n d1 d2 : Int} {m : Nat} {W : Prop} {p : Nat → Option (Bool × Int × Int)} {r : Nat → Option (Int × Int × Bool)} (hw : ¬ (W ∧ n + m ≤ 500)) (h : ∃ a b a' b', Ev p (false, a, b) ∧ Ev r (a', b', true)) : Agree n d1 d2 m W p r := ⟨fun h' => absurd h' hw, fun _ => h⟩
def AgreeE (x : Ex) : Prop := ∀ n d dr depth : Int, 0 ≤ n ∧ n ≤ 500 → 0 ≤ depth ∧ depth ≤ 20 →
  Agree n (x.dep depth d) (x.dep depth dr) x.nodes (WD x depth) (fun k => Zbq k n d x depth) (fun k => Zck k n dr false x depth)
theorem Zfb (xs : List Ex) (depth n d i : Int) : Ev (fun k => (Zw k).ref02_Size_Exprs_l1 xs depth i n d true) (n, d, true) := by
  refine Ev.succ (Ev.now fun k => ?_)
  show Z2b k _ xs depth i n d true = _
  unfold Z2b Z3p
  cases decide (i < (xs.length : Int)) <;> rfl
theorem agree_loop (xs : List Ex) (depth : Int) (hdp : 0 ≤ depth ∧ depth ≤ 20) (hlen : xs.length < 9223372036854775808) (hx : ∀ a ∈ xs, AgreeE a) : ∀ (rest pre : List Ex), xs = pre ++ rest → ∀ n d dr : Int, 0 ≤ n ∧ n ≤ 500 →
    Agree n (depL rest depth d) (depL rest depth dr) (Zb3 rest) (WDL rest depth) (fun k => (Zz k).ast_Counter_Exprs_l1 xs depth (pre.length : Int) n d) (fun k => (Zw k).ref02_Size_Exprs_l1 xs depth (pre.length : Int) n dr false)
  | [], pre, h, n, d, dr, hn => by
    refine .yes (by simp [WDL]) (by simpa [Zb3] using hn.2) ⟨Ev.succ (Ev.now fun k => ?_), Ev.succ (Ev.now fun k => ?_)⟩
    · show Z2v k _ xs depth _ n d = _
      unfold Z2v
      rw [dec_f (by rw [h]; simp)]; simp [Zb3, depL]
    · show Z2b k _ xs depth _ n dr false = _
      unfold Z2b Z3p
      rw [dec_f (by rw [h]; simp)]; simp [Zb3, depL]
  | x :: rest, pre, h, n, d, dr, hn => by
    have hl : xs.length = pre.length + 1 + rest.length := by rw [h]; simp; omega
    have hm : at? xs (pre.length : Int) = some x := by rw [h]; exact at_mid _ _ _
    have hpl : (pre ++ [x]).length = pre.length + 1 := by simp
    have en : n + ((Zb3 (x :: rest) : Nat) : Int) = n + (x.nodes : Int) + ((Zb3 rest : Nat) : Int) := by rw [Zb3]; omega
    rcases (hx x (by rw [h]; simp) n d dr depth hn hdp).cases with ⟨hw, h5, hp, hr⟩ | ⟨hno, a, b, a', b', hp, hr⟩
    · have hn' : 0 ≤ n + (x.nodes : Int) ∧ n + (x.nodes : Int) ≤ 500 := ⟨by omega, h5⟩
      have e1 : ∀ R, Ev (fun k => (Zz k).ast_Counter_Exprs_l1 xs depth ((pre ++ [x]).length : Int) (n + (x.nodes : Int)) (x.dep depth d)) R → Ev (fun k => (Zz k).ast_Counter_Exprs_l1 xs depth (pre.length : Int) n d) R := by
        rintro R ⟨K2, hR⟩
        obtain ⟨K1, hp⟩ := hp
        refine Ev.succ ⟨max K1 K2, fun k hk => ?_⟩
        have hp' : (Zz k).ast_Counter_Expr n d x depth = some (true, n + (x.nodes : Int), x.dep depth d) := hp k (by omega)
        have hR' : (Zz k).ast_Counter_Exprs_l1 xs depth ((pre ++ [x]).length : Int) (n + (x.nodes : Int)) (x.dep depth d) = some R := hR k (by omega)
        show Z2v k _ xs depth _ n d = _
        unfold Z2v Z7h
        rw [Zew (by omega), hm]
        simp only [cond_true, Option.bind_some, Ex.eta, hp']
        rw [Z69 (by omega), ← hpl]
        exact hR'
      have e2 : ∀ R, Ev (fun k => (Zw k).ref02_Size_Exprs_l1 xs depth ((pre ++ [x]).length : Int) (n + (x.nodes : Int)) (x.dep depth dr) false) R → Ev (fun k => (Zw k).ref02_Size_Exprs_l1 xs depth (pre.length : Int) n dr false) R := by
        rintro R ⟨K2, hR⟩
        obtain ⟨K1, hr⟩ := hr
        refine Ev.succ ⟨max K1 K2, fun k hk => ?_⟩
        have hr' : (Zw k).ref02_Size_Expr n dr false x depth = some (n + (x.nodes : Int), x.dep depth dr, false) := hr k (by omega)
        have hR' : (Zw k).ref02_Size_Exprs_l1 xs depth ((pre ++ [x]).length : Int) (n + (x.nodes : Int)) (x.dep depth dr) false = some R := hR k (by omega)
        show Z2b k _ xs depth _ n dr false = _
        unfold Z2b Z3p Z7x
        rw [Zew (by omega), hm]
        simp only [cond_true, Option.bind_some, hr', Bool.not_false]
        rw [Z69 (by omega), ← hpl]
        exact hR'
      rcases (agree_loop xs depth hdp hlen hx rest (pre ++ [x]) (by rw [h]; simp) (n + (x.nodes : Int)) (x.dep depth d) (x.dep depth dr) hn').cases with ⟨q4, q3, q1, q2⟩ | ⟨hno, a, b, a', b', q1, q2⟩
      · exact .yes (by rw [WDL]; exact ⟨hw, q4⟩) (by rw [en]; exact q3) ⟨by rw [en]; exact e1 _ q1, by rw [en]; exact e2 _ q2⟩
      · exact .no (by rw [WDL, en]; rintro ⟨⟨_, w2⟩, w3⟩; exact hno ⟨w2, w3⟩) ⟨a, b, a', b', e1 _ q1, e2 _ q2⟩
    · refine .no (by rw [WDL, en]; rintro ⟨⟨w1, _⟩, w3⟩; exact hno ⟨w1, by omega⟩) ⟨a, b, a', b', ?_, ?_⟩
      · obtain ⟨K1, hp⟩ := hp
        refine Ev.succ ⟨K1, fun k hk => ?_⟩
        have hp' : (Zz k).ast_Counter_Expr n d x depth = some (false, a, b) := hp k (by omega)
        show Z2v k _ xs depth _ n d = _
        unfold Z2v Z7h
        rw [Zew (by omega), hm]
        simp only [cond_true, Option.bind_some, Ex.eta, hp', Bool.not_false]
      · obtain ⟨K1, hr⟩ := hr
        obtain ⟨K2, hR⟩ := Zfb xs depth a' b' (((pre ++ [x]).length : Nat) : Int)
        refine Ev.succ ⟨max K1 K2, fun k hk => ?_⟩
        have hr' : (Zw k).ref02_Size_Expr n dr false x depth = some (a', b', true) := hr k (by omega)
        have hR' : (Zw k).ref02_Size_Exprs_l1 xs depth ((pre ++ [x]).length : Int) a' b' true = some (a', b', true) := hR k (by omega)
        show Z2b k _ xs depth _ n dr false = _
        unfold Z2b Z3p Z7x
        rw [Zew (by omega), hm]
        simp only [cond_true, Option.bind_some, hr', Bool.not_false]
        rw [Z69 (by omega), ← hpl]
        exact hR'
theorem agree_exprs {xs : List Ex} {depth : Int} (hdp : 0 ≤ depth ∧ depth ≤ 20) (hlen : xs.length < 9223372036854775808) (hx : ∀ a ∈ xs, AgreeE a) {n d dr : Int} (hn : 0 ≤ n ∧ n ≤ 500) :
    Agree n (depL xs depth d) (depL xs depth dr) (Zb3 xs) (WDL xs depth) (fun k => Z23 k n d xs depth) (fun k => Z1b k n dr false xs depth) := by
  rcases (agree_loop xs depth hdp hlen hx xs [] rfl n d dr hn).cases with ⟨q4, q3, q1, q2⟩ | ⟨hno, a, b, a', b', q1, q2⟩
  · exact .yes q4 q3 ⟨Ev.succ q1, Ev.succ q2⟩
  · exact .no hno ⟨a, b, a', b', Ev.succ q1, Ev.succ q2⟩
theorem agree_expr (x : Ex) (hf : x.fits) : AgreeE x := by
  induction x using Ex.ind with
  | h op kind n0 s f args ih =>
    rw [Ex.fits] at hf
    obtain ⟨-, f1, f2, f3, f4⟩ := hf
    have hx : ∀ a ∈ args, AgreeE a := fun a ha => ih a ha (fitsL_mem f4 a ha)
    intro n d dr depth hn hdp
    obtain ⟨K1, h1⟩ := prog_expr (x := .mk op kind n0 s f args) (n := n) (d := d) (depth := depth) hn ⟨hdp.1, by omega⟩ f1 f2
    obtain ⟨K2, h2⟩ := ref_expr (x := .mk op kind n0 s f args) (n := n) (d := dr) (depth := depth) hn ⟨hdp.1, by omega⟩ f1 f2
    have er : (Ex.mk op kind n0 s f args).args = args := rfl
    rw [er] at h1 h2
    by_cases hc : n < 500 ∧ depth ≤ 14 ∧ headE (.mk op kind n0 s f args) = true
    · have hb : (decide (n < 500) && (decide (depth ≤ 14) && headE (.mk op kind n0 s f args))) = true := by simp [hc.1, hc.2.1, hc.2.2]
      rw [hb] at h1 h2
      simp only [cond_true, Bool.not_true] at h1 h2
      have e1 : ∀ R, Ev (fun k => Z23 k (n + 1) (imax d depth) args (depth + 1)) R → Ev (fun k => Zbq k n d (.mk op kind n0 s f args) depth) R := by
        rintro R ⟨K, hR⟩
        exact Ev.succ ⟨max K1 K, fun k hk => (h1 k (by omega)).trans (hR k (by omega))⟩
      have e2 : ∀ R, Ev (fun k => Z1b k (n + 1) (imax dr depth) false args (depth + 1)) R → Ev (fun k => Zck k n dr false (.mk op kind n0 s f args) depth) R := by
        rintro R ⟨K, hR⟩
        exact Ev.succ ⟨max K2 K, fun k hk => (h2 k (by omega)).trans (hR k (by omega))⟩
      have en : n + (((Ex.mk op kind n0 s f args).nodes : Nat) : Int) = n + 1 + ((Zb3 args : Nat) : Int) := by rw [Ex.nodes]; omega
      rcases (agree_exprs (depth := depth + 1) (d := imax d depth) (dr := imax dr depth) ⟨by omega, by omega⟩ f3 hx (n := n + 1) ⟨by omega, by omega⟩).cases with ⟨q4, q3, q1, q2⟩ | ⟨hno, a, b, a', b', q1, q2⟩
      · exact .yes (by rw [WD]; exact ⟨hc.2.2, hc.2.1, q4⟩) (by rw [en]; exact q3) ⟨by rw [en]; exact e1 _ q1, by rw [en]; exact e2 _ q2⟩
      · exact .no (by rw [WD, en]; rintro ⟨⟨_, _, w2⟩, w3⟩; exact hno ⟨w2, w3⟩) ⟨a, b, a', b', e1 _ q1, e2 _ q2⟩
    · have hb : (decide (n < 500) && (decide (depth ≤ 14) && headE (.mk op kind n0 s f args))) = false := by
        rw [← Bool.not_eq_true]; simpa using hc
      rw [hb] at h1 h2
      simp only [cond_false, Bool.not_false] at h1 h2
      refine .no (by rw [WD, Ex.nodes]; rintro ⟨⟨w1, w2, _⟩, w3⟩; exact hc ⟨by omega, w2, w1⟩) ⟨n + 1, imax d depth, n + 1, imax dr depth, Ev.succ ⟨K1, fun k hk => h1 k hk⟩, ?_⟩
      obtain ⟨K3, h3⟩ := Ev.succ (f := fun k => Z1b k (n + 1) (imax dr depth) true args (depth + 1)) (Zfb args (depth + 1) (n + 1) (imax dr depth) 0)
      exact Ev.succ ⟨max K2 K3, fun k hk => (h2 k (by omega)).trans (h3 k (by omega))⟩
end Go.Proofs.YtkodnhngllfemaaGreatDoor
