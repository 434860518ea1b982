import Derived.Test.YtaknpdhmhifpeaaGreatDoorL3e
set_option linter.unusedVariables false
set_option linter.unusedSimpArgs false
namespace Go.Proofs.YtaknpdhmhifpeaaGreatDoor
open Go

/-! ### 37. Expressions: the program's text is the reference's -/
theorem constOK_of {kind n : Int} (h : constK kind n = true) : constOK kind n = true ∧ 0 ≤ n ∧ n ≤ 2147483647 := by
  unfold constK at h
  unfold constOK
  by_cases k1 : kind = 1
  · subst k1
    have : 0 ≤ n ∧ n ≤ 1 := by simpa using h
    simp; omega
  · rw [Zbp k1] at h
    simp only [cond_false, Bool.and_eq_true, Bool.or_eq_true, decide_eq_true_eq, beq_iff_eq] at h
    rcases h with ⟨h2 | h2, h3, h4⟩
    · subst h2; simp; omega
    · subst h2; simp; omega
theorem constText_size (kind n : Int) : (Zd5 kind n).size ≤ 24 := by
  have := itoaB_size n
  unfold Zd5
  split
  · split
    · exact Nat.le_of_ble_eq_true rfl
    · exact Nat.le_of_ble_eq_true rfl
  · split
    · simp only [Z9, bsz, List.size_toArray, List.length_cons, List.length_nil]; omega
    · omega
/-- Well formed: both texts are one, and not too long. -/
def Good (x : Ex) : Prop := TX x (txt x) ∧ (txt x).size + 4 ≤ 40 * x.nodes
theorem good_of {x : Ex} {t : ByteArray} (h1 : Ev (fun k => Z1t k x) t) (h2 : Ev (fun k => Z3g k x) t) (hs : t.size + 4 ≤ 40 * x.nodes) : Good x := by
  have h : TX x t := ⟨h1, h2⟩
  unfold Good
  rw [txt_of h]
  exact ⟨h, hs⟩
theorem sizes_good : ∀ {xs : List Ex}, (∀ a ∈ xs, Good a) → Zfd (xs.map txt) ≤ 40 * Z3c xs
  | [], _ => Nat.le_refl _
  | x :: l, h => by
    have h1 := (h x (by simp)).2
    have h2 := sizes_good (xs := l) (fun a ha => h a (by simp [ha]))
    rw [List.map_cons, Zfd, Z3c]; omega
theorem nodes_pos (x : Ex) : 1 ≤ x.nodes := by cases x; rw [Ex.nodes]; omega
set_option maxRecDepth 20000 in
theorem good (x : Ex) : WF x → x.nodes ≤ 600 → Good x := by
  induction x using Ex.ind with
  | h op kind n s f args ih =>
    intro hw hN
    rw [WF] at hw
    obtain ⟨hh, hA⟩ := hw
    rw [Ex.nodes] at hN
    have hg : ∀ a ∈ args, Good a := fun a ha => ih a ha (WFL_mem hA a ha) (by have := nodesL_mem a ha; omega)
    have hnn : (Ex.mk op kind n s f args).nodes = Z3c args + 1 := by rw [Ex.nodes]
    have hsz := sizes_good hg
    rcases head_facts hh with ⟨h1, h2, h3⟩ | ⟨h1, h2, h3⟩ | ⟨h1, h2, h3, h4⟩ | ⟨h1, h2, a, h3⟩ | ⟨h1, h2⟩ | ⟨h1, a, h3⟩ | ⟨h1, a, h3⟩ | ⟨h1, h2, a, b, h3⟩
    · -- a constant
      have h1' : op = 1 := h1
      have h3' : args = [] := h3
      subst h1'; subst h3'
      obtain ⟨c1, c2, c3⟩ := constOK_of (show constK kind n = true from h2)
      have hcs := constText_size kind n
      refine good_of (t := Zd5 kind n) (Ev.succ (Ev.now fun k => ?_)) ?_ (by rw [hnn]; omega)
      · show Zcp k (Zz k) (Ex.mk 1 kind n s f []) = _
        unfold Zcp Zdw print_Of_j2
        simp only [signs_ok, Option.bind_some]
        show (Z82 k kind n).bind _ = _
        rw [const_prog k (by omega) (by omega), if_pos c1]; rfl
      · obtain ⟨K, hK⟩ : ∃ K, ∀ k, K ≤ k → ∃ b, Z7w k kind n = some (Zd5 kind n, b) := by
          refine ⟨23, fun k hk => ?_⟩
          obtain ⟨t, e1, e2⟩ := const_ref (k - 23) (kind := kind) (n := n) (by omega) (by omega)
          rw [show k - 23 + 23 = k by omega] at e1
          exact ⟨_, by rw [e1, e2 c1]⟩
        refine Ev.succ ⟨K, fun k hk => ?_⟩
        obtain ⟨b, hb⟩ := hK k hk
        show Z9e k (Zn k) (Ex.mk 1 kind n s f []) = _
        unfold Z9e
        show (Z7w k kind n).bind _ = _
        rw [hb]; rfl
    · -- a name
      have h1' : op = 2 := h1
      have h3' : args = [] := h3
      subst h1'; subst h3'
      have hn := Za7 (s := s) h2
      exact good_of (t := s) (Ev.succ (Ev.now fun k => rfl)) (Ev.succ (Ev.now fun k => rfl)) (by rw [hnn]; omega)
    · -- a field
      have h1' : op = 3 := h1
      have h4' : args = [] := h4
      subst h1'; subst h4'
      have hn := Za7 (s := s) h2
      have hm := Za7 (s := f) h3
      refine good_of (t := (s ++ ⟨#[46]⟩) ++ f) (Ev.succ (Ev.now fun k => ?_)) (Ev.succ (Ev.now fun k => ?_)) (by rw [hnn]; simp only [Z9, bsz, List.size_toArray, List.length_cons, List.length_nil]; omega)
      · show (if s.size + (⟨#[46]⟩ : ByteArray).size < 1000000000000 then if (s ++ ⟨#[46]⟩ : ByteArray).size + f.size < 1000000000000 then some ((s ++ ⟨#[46]⟩) ++ f) else none else none) = _
        rw [if_pos (by simp only [Z9, bsz, List.size_toArray, List.length_cons, List.length_nil]; omega), if_pos (by simp only [Z9, bsz, List.size_toArray, List.length_cons, List.length_nil]; omega)]
      · show (if s.size + (⟨#[46]⟩ : ByteArray).size < 1000000000000 then if (s ++ ⟨#[46]⟩ : ByteArray).size + f.size < 1000000000000 then some ((s ++ ⟨#[46]⟩) ++ f) else none else none) = _
        rw [if_pos (by simp only [Z9, bsz, List.size_toArray, List.length_cons, List.length_nil]; omega), if_pos (by simp only [Z9, bsz, List.size_toArray, List.length_cons, List.length_nil]; omega)]
    · -- an index
      have h1' : op = 4 := h1
      have h3' : args = [a] := h3
      subst h1'; subst h3'
      have hn := Za7 (s := s) h2
      obtain ⟨⟨⟨K1, p1⟩, p2⟩, p3⟩ := hg a (by simp)
      have hna : Z3c [a] = a.nodes := by simp [Z3c]
      obtain ⟨K2, q2⟩ := exprs_ref (xs := [a]) (fun y hy => (hg y hy).1.2) (by omega)
      have hj : Zcx ([a].map txt) = txt a := by
        show Zcx [txt a] = _
        rw [Zcy]; exact Zdv _
      refine good_of (t := ((s ++ ⟨#[91]⟩) ++ txt a) ++ ⟨#[93]⟩) (Ev.succ ⟨K1, fun k hk => ?_⟩) (Ev.succ ⟨K2, fun k hk => ?_⟩) (by rw [hnn]; simp only [Z9, bsz, List.size_toArray, List.length_cons, List.length_nil]; omega)
      · have p1' : (Zz k).print_Of a = some (txt a) := p1 k hk
        show (if s.size + (⟨#[91]⟩ : ByteArray).size < 1000000000000 then ((Zz k).print_Of a).bind fun r158 => if (s ++ ⟨#[91]⟩ : ByteArray).size + r158.size < 1000000000000 then if ((s ++ ⟨#[91]⟩) ++ r158 : ByteArray).size + (⟨#[93]⟩ : ByteArray).size < 1000000000000 then some (((s ++ ⟨#[91]⟩) ++ r158) ++ ⟨#[93]⟩) else none else none else none) = _
        rw [p1']
        simp only [Option.bind_some]
        rw [if_pos (by simp only [Z9, bsz, List.size_toArray, List.length_cons, List.length_nil]; omega), if_pos (by simp only [Z9, bsz, List.size_toArray, List.length_cons, List.length_nil]; omega), if_pos (by simp only [Z9, bsz, List.size_toArray, List.length_cons, List.length_nil]; omega)]
      · have q2' : (Zn k).ref03_Exprs [a] = some (txt a) := by rw [← hj]; exact q2 k hk
        show (if s.size + (⟨#[91]⟩ : ByteArray).size < 1000000000000 then ((Zn k).ref03_Exprs [a]).bind fun r158 => if (s ++ ⟨#[91]⟩ : ByteArray).size + r158.size < 1000000000000 then if ((s ++ ⟨#[91]⟩) ++ r158 : ByteArray).size + (⟨#[93]⟩ : ByteArray).size < 1000000000000 then some (((s ++ ⟨#[91]⟩) ++ r158) ++ ⟨#[93]⟩) else none else none else none) = _
        rw [q2']
        simp only [Option.bind_some]
        rw [if_pos (by simp only [Z9, bsz, List.size_toArray, List.length_cons, List.length_nil]; omega), if_pos (by simp only [Z9, bsz, List.size_toArray, List.length_cons, List.length_nil]; omega), if_pos (by simp only [Z9, bsz, List.size_toArray, List.length_cons, List.length_nil]; omega)]
    · -- a call
      have h1' : op = 5 := h1
      subst h1'
      have hn := Za7 (s := s) h2
      obtain ⟨K1, p1⟩ := joined_prog (xs := args) (fun y hy => (hg y hy).1.1) (by omega)
      obtain ⟨K2, q2⟩ := exprs_ref (xs := args) (fun y hy => (hg y hy).1.2) (by omega)
      have hj := Zco (args.map txt)
      refine good_of (t := ((s ++ ⟨#[40]⟩) ++ Zcx (args.map txt)) ++ ⟨#[41]⟩) (Ev.succ ⟨K1, fun k hk => ?_⟩) (Ev.succ ⟨K2, fun k hk => ?_⟩) (by rw [hnn]; simp only [Z9, bsz, List.size_toArray, List.length_cons, List.length_nil]; omega)
      · have p1' : (Zz k).print_Joined_api_Expr args ⟨#[44, 32]⟩ = some (Zcx (args.map txt)) := p1 k hk
        show (if s.size + (⟨#[40]⟩ : ByteArray).size < 1000000000000 then ((Zz k).print_Joined_api_Expr args ⟨#[44, 32]⟩).bind fun r158 => if (s ++ ⟨#[40]⟩ : ByteArray).size + r158.size < 1000000000000 then if ((s ++ ⟨#[40]⟩) ++ r158 : ByteArray).size + (⟨#[41]⟩ : ByteArray).size < 1000000000000 then some (((s ++ ⟨#[40]⟩) ++ r158) ++ ⟨#[41]⟩) else none else none else none) = _
        rw [p1']
        simp only [Option.bind_some]
        rw [if_pos (by simp only [Z9, bsz, List.size_toArray, List.length_cons, List.length_nil]; omega), if_pos (by simp only [Z9, bsz, List.size_toArray, List.length_cons, List.length_nil]; omega), if_pos (by simp only [Z9, bsz, List.size_toArray, List.length_cons, List.length_nil]; omega)]
      · have q2' : (Zn k).ref03_Exprs args = some (Zcx (args.map txt)) := q2 k hk
        show (if s.size + (⟨#[40]⟩ : ByteArray).size < 1000000000000 then ((Zn k).ref03_Exprs args).bind fun r158 => if (s ++ ⟨#[40]⟩ : ByteArray).size + r158.size < 1000000000000 then if ((s ++ ⟨#[40]⟩) ++ r158 : ByteArray).size + (⟨#[41]⟩ : ByteArray).size < 1000000000000 then some (((s ++ ⟨#[40]⟩) ++ r158) ++ ⟨#[41]⟩) else none else none else none) = _
        rw [q2']
        simp only [Option.bind_some]
        rw [if_pos (by simp only [Z9, bsz, List.size_toArray, List.length_cons, List.length_nil]; omega), if_pos (by simp only [Z9, bsz, List.size_toArray, List.length_cons, List.length_nil]; omega), if_pos (by simp only [Z9, bsz, List.size_toArray, List.length_cons, List.length_nil]; omega)]
    · -- not
      have h1' : op = 6 := h1
      have h3' : args = [a] := h3
      subst h1'; subst h3'
      have hwa := WFL_mem hA a (by simp)
      have hha : headE a = true := by cases a; rw [WF] at hwa; exact hwa.1
      obtain ⟨⟨p1, p2⟩, p3⟩ := hg a (by simp)
      have hna : Z3c [a] = a.nodes := by simp [Z3c]
      obtain ⟨K1, o1⟩ := Zem (L := 8) hha p1 (by omega)
      obtain ⟨lv, ⟨K2, o2⟩, o3⟩ := two_ref hha
      obtain ⟨K3, o4⟩ := operand_ref (c := decide (8 ≤ a.op)) p2 (by omega)
      have hps := parB_size (decide (8 ≤ a.op)) (txt a)
      have hc : (decide (8 ≤ a.op) && decide (lvl a.op < 8)) = decide (8 ≤ a.op) := by
        by_cases h8 : 8 ≤ a.op
        · have := (sign_bin h8 (head_range hha).2).2.2.2.1
          rw [Z6r h8, Z6r (by omega)]; rfl
        · rw [Z90 h8]; rfl
      rw [hc] at o1
      refine good_of (t := ⟨#[110, 111, 116, 32]⟩ ++ parB (decide (8 ≤ a.op)) (txt a)) (Ev.succ ⟨K1, fun k hk => ?_⟩) (Ev.succ ⟨max K2 K3, fun k hk => ?_⟩) (by rw [hnn]; simp only [Z9, bsz, List.size_toArray, List.length_cons, List.length_nil]; omega)
      · have o1' : (Zz k).print_Of_1 a 8 = some (parB (decide (8 ≤ a.op)) (txt a)) := o1 k hk
        show (((Zz k).print_Of_1 a 8).bind fun r65 => if (⟨#[110, 111, 116, 32]⟩ : ByteArray).size + r65.size < 1000000000000 then some (⟨#[110, 111, 116, 32]⟩ ++ r65) else none) = _
        rw [o1']
        simp only [Option.bind_some]
        rw [if_pos (by simp only [Z9, bsz, List.size_toArray, List.length_cons, List.length_nil]; omega)]
      · have o2' : Z3h k a = some (lv, decide (8 ≤ a.op)) := o2 k (by omega)
        have o4' : (Zn k).ref03_operand a (decide (8 ≤ a.op)) = some (parB (decide (8 ≤ a.op)) (txt a)) := o4 k (by omega)
        show ((Z3h k a).bind fun r69 => ((Zn k).ref03_operand a r69.2).bind fun r87 => if (⟨#[110, 111, 116, 32]⟩ : ByteArray).size + r87.size < 1000000000000 then some (⟨#[110, 111, 116, 32]⟩ ++ r87) else none) = _
        rw [o2']
        simp only [Option.bind_some, o4']
        rw [if_pos (by simp only [Z9, bsz, List.size_toArray, List.length_cons, List.length_nil]; omega)]
    · -- minus
      have h1' : op = 7 := h1
      have h3' : args = [a] := h3
      subst h1'; subst h3'
      have hwa := WFL_mem hA a (by simp)
      have hha : headE a = true := by cases a; rw [WF] at hwa; exact hwa.1
      obtain ⟨⟨p1, p2⟩, p3⟩ := hg a (by simp)
      have hna : Z3c [a] = a.nodes := by simp [Z3c]
      obtain ⟨K1, o1⟩ := Zem (L := 8) hha p1 (by omega)
      obtain ⟨lv, ⟨K2, o2⟩, o3⟩ := two_ref hha
      obtain ⟨K3, o4⟩ := operand_ref (c := decide (8 ≤ a.op)) p2 (by omega)
      have hps := parB_size (decide (8 ≤ a.op)) (txt a)
      have hc : (decide (8 ≤ a.op) && decide (lvl a.op < 8)) = decide (8 ≤ a.op) := by
        by_cases h8 : 8 ≤ a.op
        · have := (sign_bin h8 (head_range hha).2).2.2.2.1
          rw [Z6r h8, Z6r (by omega)]; rfl
        · rw [Z90 h8]; rfl
      rw [hc] at o1
      refine good_of (t := ⟨#[45]⟩ ++ parB (decide (8 ≤ a.op)) (txt a)) (Ev.succ ⟨K1, fun k hk => ?_⟩) (Ev.succ ⟨max K2 K3, fun k hk => ?_⟩) (by rw [hnn]; simp only [Z9, bsz, List.size_toArray, List.length_cons, List.length_nil]; omega)
      · have o1' : (Zz k).print_Of_1 a 8 = some (parB (decide (8 ≤ a.op)) (txt a)) := o1 k hk
        show (((Zz k).print_Of_1 a 8).bind fun r65 => if (⟨#[45]⟩ : ByteArray).size + r65.size < 1000000000000 then some (⟨#[45]⟩ ++ r65) else none) = _
        rw [o1']
        simp only [Option.bind_some]
        rw [if_pos (by simp only [Z9, bsz, List.size_toArray, List.length_cons, List.length_nil]; omega)]
      · have o2' : Z3h k a = some (lv, decide (8 ≤ a.op)) := o2 k (by omega)
        have o4' : (Zn k).ref03_operand a (decide (8 ≤ a.op)) = some (parB (decide (8 ≤ a.op)) (txt a)) := o4 k (by omega)
        show ((Z3h k a).bind fun r69 => ((Zn k).ref03_operand a r69.2).bind fun r87 => if (⟨#[45]⟩ : ByteArray).size + r87.size < 1000000000000 then some (⟨#[45]⟩ ++ r87) else none) = _
        rw [o2']
        simp only [Option.bind_some, o4']
        rw [if_pos (by simp only [Z9, bsz, List.size_toArray, List.length_cons, List.length_nil]; omega)]
    · -- two operands
      have h3' : args = [a, b] := h3
      subst h3'
      have h1' : 8 ≤ op := h1
      have h2' : op ≤ 21 := h2
      have hwa := WFL_mem hA a (by simp)
      have hha : headE a = true := by cases a; rw [WF] at hwa; exact hwa.1
      have hwb := WFL_mem hA b (by simp)
      have hhb : headE b = true := by cases b; rw [WF] at hwb; exact hwb.1
      obtain ⟨⟨p1, p2⟩, p3⟩ := hg a (by simp)
      obtain ⟨⟨p4, p5⟩, p6⟩ := hg b (by simp)
      have hna : Z3c [a, b] = a.nodes + b.nodes := by simp [Z3c]
      obtain ⟨s1, ⟨K0, s2⟩, s3, s4, s5, s6⟩ := sign_bin h1' h2'
      obtain ⟨K1, o1⟩ := Zem (L := lvl op) hha p1 (by omega)
      obtain ⟨K2, o2⟩ := Zem (L := lvl op + 1) hhb p4 (by omega)
      obtain ⟨la, ⟨K3, o3⟩, e3⟩ := two_ref hha
      obtain ⟨lb, ⟨K4, o4⟩, e4⟩ := two_ref hhb
      have hca : (decide (8 ≤ a.op) && decide (lvl a.op < lvl op)) = (bif decide (8 ≤ a.op) then decide (la < lvl op - 1) else false) := by
        by_cases h8 : 8 ≤ a.op
        · have := e3 h8
          rw [Z6r h8]; simp only [Bool.true_and, cond_true]; exact decide_eq_decide.2 (by omega)
        · rw [Z90 h8]; rfl
      have hcb : (decide (8 ≤ b.op) && decide (lvl b.op < lvl op + 1)) = (bif decide (8 ≤ b.op) then decide (lb ≤ lvl op - 1) else false) := by
        by_cases h8 : 8 ≤ b.op
        · have := e4 h8
          rw [Z6r h8]; simp only [Bool.true_and, cond_true]; exact decide_eq_decide.2 (by omega)
        · rw [Z90 h8]; rfl
      rw [hca] at o1
      rw [hcb] at o2
      generalize hA' : (bif decide (8 ≤ a.op) then decide (la < lvl op - 1) else false) = ca at o1
      generalize hB' : (bif decide (8 ≤ b.op) then decide (lb ≤ lvl op - 1) else false) = cb at o2
      obtain ⟨K5, o5⟩ := operand_ref (c := ca) p2 (by omega)
      obtain ⟨K6, o6⟩ := operand_ref (c := cb) p5 (by omega)
      have hpa := parB_size ca (txt a)
      have hpb := parB_size cb (txt b)
      have hwr : IntKind.i64.wrap (lvl op + 1) = lvl op + 1 := Z85 (by omega) (by omega)
      refine good_of (t := (((parB ca (txt a) ++ ⟨#[32]⟩) ++ sgn op) ++ ⟨#[32]⟩) ++ parB cb (txt b)) (Ev.succ ⟨max K1 K2, fun k hk => ?_⟩) (Ev.succ ⟨max K0 (max K3 (max K4 (max K5 K6))), fun k hk => ?_⟩) (by rw [hnn]; simp only [Z9, bsz, List.size_toArray, List.length_cons, List.length_nil]; omega)
      · have o1' : (Zz k).print_Of_1 a (lvl op) = some (parB ca (txt a)) := o1 k (by omega)
        have o2' : (Zz k).print_Of_1 b (lvl op + 1) = some (parB cb (txt b)) := o2 k (by omega)
        show Zcp k _ _ = _
        unfold Zcp Zdw
        simp only [signs_ok, Option.bind_some]
        have s1' : Zdj signsT (Ex.mk op kind n s f [a, b]).op = some (sgn op, lvl op) := s1
        have hl2 : (((Ex.mk op kind n s f [a, b]).args.length : Int) == 1) = false := rfl
        have at0 : at? (Ex.mk op kind n s f [a, b]).args 0 = some a := rfl
        have at1 : at? (Ex.mk op kind n s f [a, b]).args 1 = some b := rfl
        simp only [s1', hl2, at0, at1, Option.isSome_some, Option.getD_some, cond_true, cond_false, Option.bind_some, o1', o2', hwr]
        rw [if_pos (by simp only [Z9, bsz, List.size_toArray, List.length_cons, List.length_nil]; omega), if_pos (by simp only [Z9, bsz, List.size_toArray, List.length_cons, List.length_nil]; omega), if_pos (by simp only [Z9, bsz, List.size_toArray, List.length_cons, List.length_nil]; omega), if_pos (by simp only [Z9, bsz, List.size_toArray, List.length_cons, List.length_nil]; omega)]
      · have s2' : Z63 k op = some (lvl op - 1, sgn op) := s2 k (by omega)
        have o3' : Z3h k a = some (la, decide (8 ≤ a.op)) := o3 k (by omega)
        have o4' : Z3h k b = some (lb, decide (8 ≤ b.op)) := o4 k (by omega)
        have o5' : (Zn k).ref03_operand a ca = some (parB ca (txt a)) := o5 k (by omega)
        have o6' : (Zn k).ref03_operand b cb = some (parB cb (txt b)) := o6 k (by omega)
        show Z9e k _ _ = _
        unfold Z9e
        have nop : ∀ j : Int, j < 8 → ((Ex.mk op kind n s f [a, b]).op == j) = false := fun j hj => Zbp (by show op ≠ j; omega)
        simp only [nop 1 (by decide), nop 2 (by decide), nop 3 (by decide), nop 4 (by decide), nop 5 (by decide), nop 6 (by decide), nop 7 (by decide), cond_false]
        unfold ref03_Expr_j1
        have hop : (Ex.mk op kind n s f [a, b]).op = op := rfl
        have at0 : at? (Ex.mk op kind n s f [a, b]).args 0 = some a := rfl
        have at1 : at? (Ex.mk op kind n s f [a, b]).args 1 = some b := rfl
        simp only [hop, at0, at1, s2', o3', o4', Option.bind_some]
        have final : ∀ X Y : Bool, X = ca → Y = cb → (((Zn k).ref03_operand a X).bind fun r197 => if r197.size + (⟨#[32]⟩ : ByteArray).size < 1000000000000 then if (r197 ++ (⟨#[32]⟩ : ByteArray)).size + (sgn op).size < 1000000000000 then if ((r197 ++ (⟨#[32]⟩ : ByteArray)) ++ sgn op).size + (⟨#[32]⟩ : ByteArray).size < 1000000000000 then ((Zn k).ref03_operand b Y).bind fun r213 => if (((r197 ++ (⟨#[32]⟩ : ByteArray)) ++ sgn op) ++ (⟨#[32]⟩ : ByteArray)).size + r213.size < 1000000000000 then some ((((r197 ++ (⟨#[32]⟩ : ByteArray)) ++ sgn op) ++ (⟨#[32]⟩ : ByteArray)) ++ r213) else none else none else none else none) = some ((((parB ca (txt a) ++ ⟨#[32]⟩) ++ sgn op) ++ ⟨#[32]⟩) ++ parB cb (txt b)) := by
          rintro X Y rfl rfl
          rw [o5']
          simp only [Option.bind_some, o6']
          rw [if_pos (by simp only [Z9, bsz, List.size_toArray, List.length_cons, List.length_nil]; omega), if_pos (by simp only [Z9, bsz, List.size_toArray, List.length_cons, List.length_nil]; omega), if_pos (by simp only [Z9, bsz, List.size_toArray, List.length_cons, List.length_nil]; omega), if_pos (by simp only [Z9, bsz, List.size_toArray, List.length_cons, List.length_nil]; omega)]
        cases h8a : decide (8 ≤ a.op) <;> cases h8b : decide (8 ≤ b.op) <;> rw [h8a] at hA' <;> rw [h8b] at hB' <;> exact final _ _ hA' hB'
end Go.Proofs.YtaknpdhmhifpeaaGreatDoor
