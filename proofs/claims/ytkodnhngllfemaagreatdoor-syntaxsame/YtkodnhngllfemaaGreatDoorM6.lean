import Derived.Test.YtkodnhngllfemaaGreatDoorM5
set_option linter.unusedVariables false
set_option linter.unusedSimpArgs false
namespace Go.Proofs.YtkodnhngllfemaaGreatDoor
open Go
def QE (F : Nat → List Ex → List Ex → Option Bool) : Prop := ∀ xs, xs.length < 9223372036854775808 → fitsL xs → ∀ ys, EqD (fun k => F k xs ys) (xs = ys)
theorem ex_all {E : Nat → Ex → Ex → Option Bool} {Es : Nat → List Ex → List Ex → Option Bool}
    (he : ∀ k x y, E (k + 1) x y = (some (x.op == y.op)).bind fun r => bif r then (some (x.kind == y.kind)).bind fun r => bif r then (some (x.n == y.n)).bind fun r => bif r then (some (bEq x.s y.s)).bind fun r => bif r then (some (bEq x.f y.f)).bind fun r => bif r then (Es k x.args y.args).bind fun r => some r else some false else some false else some false else some false else some false)
    (hs : ∀ xs ys, xs.length < 9223372036854775808 → (∀ x ∈ xs, ∀ y, EqD (fun k => E k x y) (x = y)) → EqD (fun k => Es k xs ys) (xs = ys)) (x : Ex) : x.fits → ∀ y, EqD (fun k => E k x y) (x = y) := by
  induction x using Ex.ind with
  | h op kind n s f args ih =>
    intro hf y
    rw [Ex.fits] at hf
    have ha := hs args y.args hf.2.2.2.1 (fun a ha => ih a ha (fitsL_mem hf.2.2.2.2 a ha))
    refine (((EqD.int op y.op).and ((EqD.int kind y.kind).and ((EqD.int n y.n).and ((EqD.str s y.s).and ((EqD.str f y.f).and ha.back))))).of_iff ?_).succ (fun k => he k _ _)
    cases y
    rw [Ex.mk.injEq]; exact Iff.rfl
theorem ex_list {E : Nat → Ex → Ex → Option Bool} {Es : Nat → List Ex → List Ex → Option Bool} (h : ∀ x : Ex, x.fits → ∀ y, EqD (fun k => E k x y) (x = y))
    (hs : ∀ xs ys, xs.length < 9223372036854775808 → (∀ x ∈ xs, ∀ y, EqD (fun k => E k x y) (x = y)) → EqD (fun k => Es k xs ys) (xs = ys)) : QE Es := fun xs hl hf ys => hs xs ys hl (fun x hx => h x (fitsL_mem hf x hx))
theorem ref_hs (xs ys : List Ex) (hl : xs.length < 9223372036854775808) (h : ∀ x ∈ xs, ∀ y, EqD (fun k => Z85 k x y) (x = y)) : EqD (fun k => Z4h k xs ys) (xs = ys) :=
  eq_list (L := fun i k => (Z0x k).ref02_SameExprs_l2 xs ys i) (E := fun x y k => Z85 k x y) hl (fun k => rfl) (fun k i => rfl) h
theorem ref_ex (x : Ex) : x.fits → ∀ y, EqD (fun k => Z85 k x y) (x = y) := ex_all (Es := Z4h) (fun k x y => rfl) ref_hs x
theorem ref_exs : QE Z4h := ex_list ref_ex ref_hs
theorem ast_hs (xs ys : List Ex) (hl : xs.length < 9223372036854775808) (h : ∀ x ∈ xs, ∀ y, EqD (fun k => Z9w k x y) (x = y)) : EqD (fun k => Z66 k xs ys) (xs = ys) := by
  have h1 : EqD (fun k => Z4u k xs ys) (xs = ys) :=
    eq_list (L := fun i k => (Z0m k).slices_EqualFunc_api_Expr_api_Expr_api_Expr_api_Expr_l2 xs ys i) (E := fun x y k => Z9w k x y) hl (fun k => rfl) (fun k i => by
      show Z1g k _ xs ys i = _
      unfold Z1g Z1q
      simp only [Ex.eta]
      rfl) h
  exact h1.back.succ fun k => rfl
theorem ast_ex (x : Ex) : x.fits → ∀ y, EqD (fun k => Z9w k x y) (x = y) := ex_all (Es := Z66) (fun k x y => rfl) ast_hs x
theorem ast_exs : QE Z66 := ex_list ast_ex ast_hs
theorem ref_strs {xs ys : List ByteArray} (hl : xs.length < 9223372036854775808) : EqD (fun k => Z9v k xs ys) (xs = ys) :=
  eq_list (L := fun i k => (Z1s k).ref02_SameStrings_l2 xs ys i) (E := fun x y k => some (bEq x y)) hl (fun k => rfl) (fun k i => rfl) (fun x _ y => EqD.str x y)
theorem ref_ints {xs ys : List Int} (hl : xs.length < 9223372036854775808) : EqD (fun k => Zdt k xs ys) (xs = ys) :=
  eq_list (L := fun i k => (Z29 k).ref02_SameInts_l2 xs ys i) (E := fun x y k => some (x == y)) hl (fun k => rfl) (fun k i => rfl) (fun x _ y => EqD.int x y)
theorem ast_strs {xs ys : List ByteArray} (hl : xs.length < 9223372036854775808) : EqD (fun k => Z57 k xs ys) (xs = ys) :=
  eq_list (L := fun i k => (Z0t k).slices_Equal_string_string_l2 xs ys i) (E := fun x y k => some (bEq x y)) hl (fun k => rfl) (fun k i => rfl) (fun x _ y => EqD.str x y)
theorem ast_ints {xs ys : List Int} (hl : xs.length < 9223372036854775808) : EqD (fun k => Z8b k xs ys) (xs = ys) :=
  eq_list (L := fun i k => (Z1d k).slices_Equal_int_int_l2 xs ys i) (E := fun x y k => some (x == y)) hl (fun k => rfl) (fun k i => rfl) (fun x _ y => EqD.int x y)
def QS (F : Nat → List St → List St → Option Bool) (l : List St) : Prop := ∀ l', EqD (fun k => F k l l') (l = l')
def QP (F : Nat → List St → List St → Option Bool) (s : St) : Prop := QS F s.body ∧ QS F s.other ∧ ∀ a ∈ s.arms, QS F a.body
theorem ref_arms {xs ys : List St} {i : Nat} {s t : St} (hi : i + 1 < 9223372036854775808) (hf : s.fits) (hq : QP Zdf s) (hl : s.arms.length = t.arms.length) :
    Thru (fun k => (Z0u k).ref02_Same_l8 xs ys (i : Int) s t 0) (s.arms = t.arms) (fun k => (Z0u k).ref02_Same_l2 xs ys ((i + 1 : Nat) : Int)) := by
  have hfa : s.arms.length < 9223372036854775808 ∧ fitsAL s.arms := by cases s; rw [St.fits] at hf; exact hf.2.2.2.2.2.2.1
  refine eq_loop (L := fun j k => (Z0u k).ref02_Same_l8 xs ys (i : Int) s t (j : Int)) hl (fun R hR => Ev.succ (hR.of_eq fun k => ?_)) (fun j a b ha hb => ?_)
  · show Z8y k _ xs ys (i : Int) s t _ = _
    unfold Z8y Zgk
    rw [dec_f (by omega), wrap_succ hi]; rfl
  · have hj : j < s.arms.length := (List.getElem?_eq_some_iff.1 ha).1
    have hm := List.mem_of_getElem? ha
    have hfa' := fitsAL_mem hfa.2 a hm
    have hq' := hq.2.2 a hm b.body
    obtain ⟨ac, al, ab⟩ := a
    rw [Ar.fits] at hfa'
    refine (((Thru.bind (ref_exs ac hfa'.1.1 hfa'.1.2 b.cond) (Thru.bind (ref_ints (ys := b.labels) hfa'.2.1.1) (Thru.bind hq' (Thru.id (fun k => (Z0u k).ref02_Same_l8 xs ys (i : Int) s t ((j + 1 : Nat) : Int)))))).of_iff ?_).succ (fun k => ?_))
    · cases b; rw [Ar.mk.injEq, and_true]; exact Iff.rfl
    · show Z8y k _ xs ys (i : Int) s t _ = _
      unfold Z8y ref02_Same_j9 Zak Zg5
      rw [dec_t (by omega), at_of ha, at_of hb, wrap_succ (by omega)]
      rfl
theorem ref_list {xs : List St} (hl : xs.length < 9223372036854775808) (h : ∀ s ∈ xs, s.fits ∧ QP Zdf s) : QS Zdf xs := by
  intro ys
  by_cases hlen : xs.length = ys.length
  · have key := eq_loop (L := fun i k => (Z0u k).ref02_Same_l2 xs ys (i : Int)) (c := fun _ => some true) hlen (fun R hR => by
      obtain rfl : R = true := (Ev.det hR (Ev.now (f := fun _ => some true) (r := true) fun _ => rfl))
      exact Ev.succ (Ev.now fun k => by
        show Z8x k _ xs ys _ = _
        unfold Z8x
        rw [dec_f (by omega)]; rfl)) (fun i s t hx hy => by
      have hi : i < xs.length := (List.getElem?_eq_some_iff.1 hx).1
      obtain ⟨hf, hq⟩ := h s (List.mem_of_getElem? hx)
      have hA := ref_arms (xs := xs) (ys := ys) (i := i) (t := t) (by omega) hf hq
      have hb := hq.1 t.body
      have ho := hq.2.1 t.other
      obtain ⟨op, name, index, fields, args, n, body, arms, other, els⟩ := s
      rw [St.fits] at hf
      obtain ⟨-, f1, f2, f3, f4, f5, f6, f7⟩ := hf
      have hL : Thru (fun k => (some ((arms.length : Int) == (t.arms.length : Int))).bind fun r => bif !r then some false else (Z0u k).ref02_Same_l8 xs ys (i : Int) (.mk op name index fields args n body arms other els) t 0) (arms = t.arms) (fun k => (Z0u k).ref02_Same_l2 xs ys ((i + 1 : Nat) : Int)) := by
        by_cases hal : arms.length = t.arms.length
        · have e : ((arms.length : Int) == (t.arms.length : Int)) = true := beq_t (by omega)
          rw [e]; exact hA hal
        · have e : ((arms.length : Int) == (t.arms.length : Int)) = false := beq_f (by omega)
          rw [e]; exact ⟨fun h => absurd (by rw [h]) hal, fun _ => Ev.now fun _ => rfl⟩
      refine (((Thru.bind (EqD.int op t.op) (Thru.bind (EqD.str name t.name) (Thru.bind (EqD.int n t.n) (Thru.bind (EqD.bool els t.els) (Thru.bind (ref_strs (ys := t.fields) f3.1) (Thru.bind (ref_exs index f2.1 f2.2 t.index) (Thru.bind (ref_exs args f4.1 f4.2 t.args)
        (Thru.bind hb (Thru.bind ho hL))))))))).of_iff ?_).succ (fun k => ?_))
      · cases t; rw [St.mk.injEq]; constructor
        · rintro ⟨a1, a2, a3, a4, a5, a6, a7, a8, a9, a10⟩; exact ⟨a1, a2, a6, a5, a7, a3, a8, a10, a9, a4⟩
        · rintro ⟨a1, a2, a3, a4, a5, a6, a7, a8, a9, a10⟩; exact ⟨a1, a2, a6, a10, a4, a3, a5, a7, a9, a8⟩
      · show Z8x k _ xs ys _ = _
        unfold Z8x ref02_Same_j3 Z5u Zhr Zbn ref02_Same_j7
        rw [dec_t (by omega), at_of hx, at_of hy]
        rfl)
    have h0 : EqD (fun k => (Z0u k).ref02_Same_l2 xs ys 0) (xs = ys) := ⟨fun h => key.1 h _ (Ev.now fun _ => rfl), key.2⟩
    refine h0.succ fun k => ?_
    show Zb6 k _ xs ys = _
    unfold Zb6 ref02_Same_j1
    rw [neq_f hlen]; rfl
  · refine ⟨fun h => absurd (by rw [h]) hlen, fun _ => Ev.succ (Ev.now fun k => ?_)⟩
    show Zb6 k _ xs ys = _
    unfold Zb6
    rw [neq_t hlen]; rfl
theorem q_all {F : Nat → List St → List St → Option Bool} (hF : ∀ {xs : List St}, xs.length < 9223372036854775808 → (∀ s ∈ xs, s.fits ∧ QP F s) → QS F xs) (s : St) : s.fits → QP F s := by
  induction s using St.ind (Q := fun a => a.fits → QS F a.body) with
  | hs op name index fields args n body arms other els i1 i2 i3 =>
    intro hf
    rw [St.fits] at hf
    obtain ⟨-, f1, f2, f3, f4, f5, f6, f7⟩ := hf
    exact ⟨hF f5.1 (fun s hs => ⟨Z3v f5.2 s hs, i1 s hs (Z3v f5.2 s hs)⟩), hF f7.1 (fun s hs => ⟨Z3v f7.2 s hs, i3 s hs (Z3v f7.2 s hs)⟩), fun a ha => i2 a ha (fitsAL_mem f6.2 a ha)⟩
  | ha cond labels body ih hf =>
    rw [Ar.fits] at hf
    exact hF hf.2.2.1 (fun s hs => ⟨Z3v hf.2.2.2 s hs, ih s hs (Z3v hf.2.2.2 s hs)⟩)
theorem ast_stmt {s : St} (hf : s.fits) (hq : QP Zab s) (t : St) : EqD (fun k => F_ast_sameStmt k s t) (s = t) := by
  have hb := hq.1 t.body
  have ho := hq.2.1 t.other
  have ha : EqD (fun k => Z5r k s.arms t.arms) (s.arms = t.arms) := by
    have hfa : s.arms.length < 9223372036854775808 ∧ fitsAL s.arms := by cases s; rw [St.fits] at hf; exact hf.2.2.2.2.2.2.1
    refine eq_list (L := fun i k => (Zl k).slices_EqualFunc_api_Arm_api_Arm_api_Arm_api_Arm_l2 s.arms t.arms i) (E := fun x y k => F_ast_sameStmt_1 k x y) hfa.1 (fun k => rfl) (fun k i => ?_) (fun a hm b => ?_)
    · show Z1v k _ s.arms t.arms i = _
      unfold Z1v Z1x
      simp only [Ar.eta]
      rfl
    · have hfa' := fitsAL_mem hfa.2 a hm
      have hq' := hq.2.2 a hm b.body
      obtain ⟨ac, al, ab⟩ := a
      rw [Ar.fits] at hfa'
      refine (((ast_exs ac hfa'.1.1 hfa'.1.2 b.cond).and ((ast_ints (ys := b.labels) hfa'.2.1.1).and hq'.back)).of_iff ?_).succ (fun k => rfl)
      cases b; rw [Ar.mk.injEq]; exact Iff.rfl
  obtain ⟨op, name, index, fields, args, n, body, arms, other, els⟩ := s
  rw [St.fits] at hf
  obtain ⟨-, f1, f2, f3, f4, f5, f6, f7⟩ := hf
  refine (((EqD.int op t.op).and ((EqD.str name t.name).and ((EqD.int n t.n).and ((EqD.bool els t.els).and ((ast_strs (ys := t.fields) f3.1).and ((ast_exs index f2.1 f2.2 t.index).and ((ast_exs args f4.1 f4.2 t.args).and (hb.and (ho.and ha.back))))))))).of_iff ?_).succ (fun k => ?_)
  rotate_left
  · show Zcv k _ (.mk op name index fields args n body arms other els) t = _
    unfold Zcv
    rfl
  cases t; rw [St.mk.injEq]; constructor
  · rintro ⟨a1, a2, a3, a4, a5, a6, a7, a8, a9, a10⟩; exact ⟨a1, a2, a6, a5, a7, a3, a8, a10, a9, a4⟩
  · rintro ⟨a1, a2, a3, a4, a5, a6, a7, a8, a9, a10⟩; exact ⟨a1, a2, a6, a10, a4, a3, a5, a7, a9, a8⟩
theorem ast_list {xs : List St} (hl : xs.length < 9223372036854775808) (h : ∀ s ∈ xs, s.fits ∧ QP Zab s) : QS Zab xs := by
  intro ys
  have h1 : EqD (fun k => Z4s k xs ys) (xs = ys) :=
    eq_list (L := fun i k => (Zl k).slices_EqualFunc_api_Stmt_api_Stmt_api_Stmt_api_Stmt_l2 xs ys i) (E := fun x y k => F_ast_sameStmt k x y) hl (fun k => rfl) (fun k i => by
      show Z1h k _ xs ys i = _
      unfold Z1h Z1r
      simp only [St.eta]
      rfl) (fun s hs t => ast_stmt (h s hs).1 (h s hs).2 t)
  exact h1.back.succ fun k => rfl
theorem small_ev {l : List St} (hl : l.length < 9223372036854775808) (hf : fitsSL l) : ∃ b, Ev (fun k => Zbp k l) b := by
  obtain ⟨r, K, h⟩ := small_list hl (fun s hs => ⟨Z3v hf s hs, ts_all s (Z3v hf s hs)⟩) 0
  refine ⟨decide (r ≤ 2000), K, fun k hk => ?_⟩
  show (Z50 k l 0).bind _ = _
  have h' : Z50 k l 0 = some r := h k hk
  rw [h']; rfl
theorem EqD.val {f g : Nat → Option Bool} {P : Prop} (h1 : EqD f P) (h2 : EqD g P) : ∃ b, Ev f b ∧ Ev g b := by
  by_cases hp : P
  · exact ⟨true, h1.1 hp, h2.1 hp⟩
  · exact ⟨false, h1.2 hp, h2.2 hp⟩
theorem law_same (a b : List St) (x y : Ex) (ha : a.length < 9223372036854775808) (hfa : fitsSL a) (hb : b.length < 9223372036854775808) (hfb : fitsSL b) (hx : x.fits) (hy : y.fits) : ∃ k, Z8j k a b x y = some true := by
  obtain ⟨s1, K1, h1⟩ := small_ev ha hfa
  obtain ⟨s2, K2, h2⟩ := small_ev hb hfb
  obtain ⟨r, K3, h3⟩ := count_list [x, y] (by simp) (fun e he => by
    have : e = x ∨ e = y := by simpa using he
    rcases this with rfl | rfl
    · exact count_args e hx
    · exact count_args e hy) 0
  obtain ⟨K4, h4⟩ := awake_ev
  have pa := fun l' => ast_list ha (fun s hs => ⟨Z3v hfa s hs, q_all ast_list s (Z3v hfa s hs)⟩) l'
  have ra := fun l' => ref_list ha (fun s hs => ⟨Z3v hfa s hs, q_all ref_list s (Z3v hfa s hs)⟩) l'
  obtain ⟨c1, ⟨K5, h5⟩, ⟨K6, h6⟩⟩ := EqD.val (pa b) (ra b)
  obtain ⟨K7, h7⟩ := (pa a).1 rfl
  obtain ⟨c2, ⟨K8, h8⟩, ⟨K9, h9⟩⟩ := EqD.val (ast_ex x hx y) (ref_ex x hx y)
  obtain ⟨K10, h10⟩ := (ast_ex y hy y).1 rfl
  refine ⟨K1 + K2 + K3 + K4 + K5 + K6 + K7 + K8 + K9 + K10, ?_⟩
  generalize hk : K1 + K2 + K3 + K4 + K5 + K6 + K7 + K8 + K9 + K10 = k
  have h1' := h1 k (by omega)
  have h2' := h2 k (by omega)
  have h3' := h3 k (by omega)
  have h4' := h4 k (by omega)
  have h5' := h5 k (by omega)
  have h6' := h6 k (by omega)
  have h7' := h7 k (by omega)
  have h8' := h8 k (by omega)
  have h9' := h9 k (by omega)
  have h10' := h10 k (by omega)
  simp only at h1' h2' h3' h4' h5' h6' h7' h8' h9' h10'
  have a0 : at? [x, y] 0 = some x := rfl
  have a1 : at? [x, y] 1 = some y := rfl
  unfold Z8j Z5w Zae Zbk Z7f
  simp only [h1', h2', h3', h4', h5', h6', h7', h8', h9', h10', a0, a1, Ex.eta, Option.bind_some, beq_self_eq_true, cond_true]
  cases s1 <;> cases s2 <;> cases decide (2000 < r) <;> rfl
end Go.Proofs.YtkodnhngllfemaaGreatDoor
