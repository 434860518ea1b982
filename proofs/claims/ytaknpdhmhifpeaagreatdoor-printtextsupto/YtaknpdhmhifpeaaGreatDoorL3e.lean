import Derived.Test.YtaknpdhmhifpeaaGreatDoorL2b
import Derived.Test.YtaknpdhmhifpeaaGreatDoorL3c
import Derived.Lib.Join
set_option linter.unusedVariables false
set_option linter.unusedSimpArgs false
namespace Go.Proofs.YtaknpdhmhifpeaaGreatDoor
open Go

/-! ### 36. Texts of expressions -/
theorem bsz (a : Array UInt8) : (⟨a⟩ : ByteArray).size = a.size := rfl
def signsT : List (Int × (ByteArray × Int)) := (Z9s 0).getD []
theorem signs_ok (k : Nat) : Z9s k = some signsT := rfl
def sgn (op : Int) : ByteArray := ((Zdj signsT op).getD (⟨#[]⟩, 0)).1
def lvl (op : Int) : Int := ((Zdj signsT op).getD (⟨#[]⟩, 0)).2
theorem sign_fuel {k n : Nat} {op : Int} {r : Int × ByteArray} (h : ∀ m, Z63 (m + n) op = some r) : Ev (fun k => Z63 k op) r := ⟨n, fun k hk => by
  have := h (k - n)
  rwa [show k - n + n = k by omega] at this⟩
set_option maxRecDepth 100000 in
theorem sign_bin {op : Int} (h1 : 8 ≤ op) (h2 : op ≤ 21) : Zdj signsT op = some (sgn op, lvl op) ∧ Ev (fun k => Z63 k op) (lvl op - 1, sgn op) ∧ 1 ≤ lvl op ∧ lvl op ≤ 7 ∧ (sgn op).size ≤ 3 ∧ bEq (sgn op) ⟨#[]⟩ = false := by
  rcases (by omega : op = 8 ∨ op = 9 ∨ op = 10 ∨ op = 11 ∨ op = 12 ∨ op = 13 ∨ op = 14 ∨ op = 15 ∨ op = 16 ∨ op = 17 ∨ op = 18 ∨ op = 19 ∨ op = 20 ∨ op = 21) with
    rfl | rfl | rfl | rfl | rfl | rfl | rfl | rfl | rfl | rfl | rfl | rfl | rfl | rfl
  all_goals exact ⟨by kernel_rfl, sign_fuel (k := 0) (n := 60) (fun m => by kernel_rfl), by decide, by decide, by decide, by kernel_rfl⟩
set_option maxRecDepth 100000 in
theorem sign_no {op : Int} (h1 : 1 ≤ op) (h2 : op ≤ 7) : Ev (fun k => Z63 k op) (7, ⟨#[]⟩) := by
  rcases (by omega : op = 1 ∨ op = 2 ∨ op = 3 ∨ op = 4 ∨ op = 5 ∨ op = 6 ∨ op = 7) with rfl | rfl | rfl | rfl | rfl | rfl | rfl
  all_goals exact sign_fuel (k := 0) (n := 60) (fun m => by kernel_rfl)
theorem sign_none {op : Int} (h1 : 1 ≤ op) (h2 : op ≤ 5) : Zdj signsT op = none := by
  rcases (by omega : op = 1 ∨ op = 2 ∨ op = 3 ∨ op = 4 ∨ op = 5) with rfl | rfl | rfl | rfl | rfl
  all_goals rfl
theorem sign_6 : Zdj signsT 6 = some (⟨#[110, 111, 116, 32]⟩, 8) := rfl
theorem sign_7 : Zdj signsT 7 = some (⟨#[45]⟩, 8) := rfl
/-- the forms that a well formed expression has -/
theorem head_facts {x : Ex} (h : headE x = true) :
    (x.op = 1 ∧ constK x.kind x.n = true ∧ x.args = []) ∨ (x.op = 2 ∧ Zan x.s = true ∧ x.args = []) ∨ (x.op = 3 ∧ Zan x.s = true ∧ Zan x.f = true ∧ x.args = []) ∨
    (x.op = 4 ∧ Zan x.s = true ∧ ∃ a, x.args = [a]) ∨ (x.op = 5 ∧ Zan x.s = true) ∨ (x.op = 6 ∧ ∃ a, x.args = [a]) ∨ (x.op = 7 ∧ ∃ a, x.args = [a]) ∨ (8 ≤ x.op ∧ x.op ≤ 21 ∧ ∃ a b, x.args = [a, b]) := by
  have l0 : ((x.args.length : Int) == 0) = true → x.args = [] := fun h => List.length_eq_zero_iff.1 (by have := eq_of_beq h; omega)
  have l1 : ((x.args.length : Int) == 1) = true → ∃ a, x.args = [a] := fun h => List.length_eq_one_iff.1 (by have := eq_of_beq h; omega)
  have l2 : ((x.args.length : Int) == 2) = true → ∃ a b, x.args = [a, b] := fun h => by
    have hl : x.args.length = 2 := by have := eq_of_beq h; omega
    match hx : x.args, hl with
    | [a, b], _ => exact ⟨a, b, rfl⟩
  unfold headE nmd at h
  by_cases o1 : x.op = 1
  · rw [Zfe o1] at h
    simp only [cond_true, cond_false, Bool.and_eq_true] at h
    exact .inl ⟨o1, h.1, l0 h.2.2.2⟩
  rw [Zbp o1] at h
  by_cases o2 : x.op = 2
  · rw [Zfe o2] at h
    simp only [cond_true, cond_false, Bool.and_eq_true] at h
    exact .inr (.inl ⟨o2, h.2.1, l0 h.2.2.2⟩)
  rw [Zbp o2] at h
  by_cases o3 : x.op = 3
  · rw [Zfe o3] at h
    simp only [cond_true, cond_false, Bool.and_eq_true] at h
    exact .inr (.inr (.inl ⟨o3, h.2.1, h.2.2.1, l0 h.2.2.2⟩))
  rw [Zbp o3] at h
  by_cases o4 : x.op = 4
  · rw [Zfe o4] at h
    simp only [cond_true, cond_false, Bool.and_eq_true] at h
    exact .inr (.inr (.inr (.inl ⟨o4, h.2.1, l1 h.2.2.2⟩)))
  rw [Zbp o4] at h
  by_cases o5 : x.op = 5
  · rw [Zfe o5] at h
    simp only [cond_true, cond_false, Bool.and_eq_true] at h
    exact .inr (.inr (.inr (.inr (.inl ⟨o5, h.2.1⟩))))
  rw [Zbp o5] at h
  by_cases o6 : x.op = 6
  · rw [Zfe o6] at h
    simp only [cond_true, cond_false, Bool.and_eq_true, Bool.true_or] at h
    exact .inr (.inr (.inr (.inr (.inr (.inl ⟨o6, l1 h.2.2.2⟩)))))
  rw [Zbp o6] at h
  by_cases o7 : x.op = 7
  · rw [Zfe o7] at h
    simp only [cond_true, cond_false, Bool.and_eq_true, Bool.or_true] at h
    exact .inr (.inr (.inr (.inr (.inr (.inr (.inl ⟨o7, l1 h.2.2.2⟩))))))
  rw [Zbp o7] at h
  simp only [cond_true, cond_false, Bool.and_eq_true, Bool.or_false, decide_eq_true_eq] at h
  exact .inr (.inr (.inr (.inr (.inr (.inr (.inr ⟨h.2.1.1, h.2.1.2, l2 h.2.2.2.2⟩))))))
theorem head_range {x : Ex} (h : headE x = true) : 1 ≤ x.op ∧ x.op ≤ 21 := by
  rcases head_facts h with h | h | h | h | h | h | h | h <;> omega
/-- what both make of an expression -/
def TX (x : Ex) (t : ByteArray) : Prop := Ev (fun k => Z1t k x) t ∧ Ev (fun k => Z3g k x) t
noncomputable def txt (x : Ex) : ByteArray := open Classical in if h : ∃ t, TX x t then h.choose else ⟨#[]⟩
theorem txt_of {x : Ex} {t : ByteArray} (h : TX x t) : txt x = t := by
  have hx : ∃ t, TX x t := ⟨t, h⟩
  unfold txt
  rw [dif_pos hx]
  exact hx.choose_spec.1.det h.1
/-- an operand, in parentheses if asked for -/
def parB (c : Bool) (t : ByteArray) : ByteArray := bif c then (⟨#[40]⟩ ++ t) ++ ⟨#[41]⟩ else t
theorem parB_size (c : Bool) (t : ByteArray) : (parB c t).size ≤ t.size + 2 := by
  cases c
  · exact Nat.le_add_right _ _
  · show ((⟨#[40]⟩ ++ t) ++ ⟨#[41]⟩ : ByteArray).size ≤ _
    simp only [Z9, bsz, List.size_toArray, List.length_cons, List.length_nil]; omega
theorem Zem {o : Ex} {t : ByteArray} {L : Int} (hw : headE o = true) (ht : Ev (fun k => Z1t k o) t) (hs : t.size < 1000000) :
    Ev (fun k => F_print_Of_1 k o L) (parB (decide (8 ≤ o.op) && decide (lvl o.op < L)) t) := by
  obtain ⟨K, ht⟩ := ht
  refine Ev.succ ⟨K, fun k hk => ?_⟩
  have ht' : (Zz k).print_Of o = some t := ht k hk
  show Zcm k (Zz k) o L = _
  have main : ∀ b, Z9r k (Zz k) o b = some (parB b t) := by
    intro b
    unfold Z9r print_Of_1_j2
    rw [Ex.eta, ht']
    cases b
    · rfl
    · simp only [cond_true, Option.bind_some]
      rw [if_pos (by simp only [Z9, bsz, List.size_toArray, List.length_cons, List.length_nil]; omega), if_pos (by simp only [Z9, bsz, List.size_toArray, List.length_cons, List.length_nil]; omega)]
      rfl
  unfold Zcm
  simp only [signs_ok, Option.bind_some, main]
  rcases head_facts hw with h | h | h | h | h | h | h | ⟨h1, h2, a, b, ha⟩
  · rw [sign_none (by omega) (by omega), Z90 (p := 8 ≤ o.op) (by omega)]; rfl
  · rw [sign_none (by omega) (by omega), Z90 (p := 8 ≤ o.op) (by omega)]; rfl
  · rw [sign_none (by omega) (by omega), Z90 (p := 8 ≤ o.op) (by omega)]; rfl
  · rw [sign_none (by omega) (by omega), Z90 (p := 8 ≤ o.op) (by omega)]; rfl
  · rw [sign_none (by omega) (by omega), Z90 (p := 8 ≤ o.op) (by omega)]; rfl
  · obtain ⟨h, a, ha⟩ := h
    rw [h, sign_6, ha]; rfl
  · obtain ⟨h, a, ha⟩ := h
    rw [h, sign_7, ha]; rfl
  · rw [(sign_bin h1 h2).1, ha, Z6r h1]; rfl
theorem operand_ref {o : Ex} {t : ByteArray} {c : Bool} (ht : Ev (fun k => Z3g k o) t) (hs : t.size < 1000000) : Ev (fun k => F_ref03_operand k o c) (parB c t) := by
  obtain ⟨K, ht⟩ := ht
  refine Ev.succ ⟨K, fun k hk => ?_⟩
  have ht' : (Zn k).ref03_Expr o = some t := ht k hk
  show Z95 k (Zn k) o c = _
  unfold Z95 Zcu
  rw [Ex.eta, ht']
  cases c
  · rfl
  · simp only [cond_true, Option.bind_some]
    rw [if_pos (by simp only [Z9, bsz, List.size_toArray, List.length_cons, List.length_nil]; omega), if_pos (by simp only [Z9, bsz, List.size_toArray, List.length_cons, List.length_nil]; omega)]
    rfl
theorem two_ref {o : Ex} (hw : headE o = true) : ∃ a, Ev (fun k => Z3h k o) (a, decide (8 ≤ o.op)) ∧ (8 ≤ o.op → a = lvl o.op - 1) := by
  have hr := head_range hw
  by_cases h : 8 ≤ o.op
  · obtain ⟨-, ⟨K, h2⟩, -, -, -, h6⟩ := sign_bin h hr.2
    refine ⟨lvl o.op - 1, ⟨K, fun k hk => ?_⟩, fun _ => rfl⟩
    have h2' : Z63 k o.op = some (lvl o.op - 1, sgn o.op) := h2 k hk
    show Z3h k o = _
    unfold Z3h
    rw [h2', Z6r h]
    simp only [Option.bind_some, h6, Bool.not_false]
  · obtain ⟨K, h2⟩ := sign_no hr.1 (by omega)
    refine ⟨7, ⟨K, fun k hk => ?_⟩, fun h' => absurd h' h⟩
    have h2' : Z63 k o.op = some (7, ⟨#[]⟩) := h2 k hk
    show Z3h k o = _
    unfold Z3h
    rw [h2', Z90 h]; rfl
/-! lists with commas -/
def tailC (ts : List ByteArray) : ByteArray := ⟨(Go.Lib.joinTail [44, 32] (ts.map (·.data.toList))).toArray⟩
def Zcx (ts : List ByteArray) : ByteArray := ⟨(Go.Lib.join (ts.map (·.data.toList)) [44, 32]).toArray⟩
theorem tailC_cons (t : ByteArray) (ts : List ByteArray) : tailC (t :: ts) = (⟨#[44, 32]⟩ ++ t) ++ tailC ts := by
  apply Z9u
  simp [tailC, Go.Lib.joinTail, Z0l]
theorem Zcy (t : ByteArray) (ts : List ByteArray) : Zcx (t :: ts) = t ++ tailC ts := by
  apply Z9u
  simp [Zcx, tailC, Go.Lib.join_cons, Z0l]
def Zfd : List ByteArray → Nat
  | [] => 0
  | t :: ts => t.size + 2 + Zfd ts
theorem tailC_size : ∀ ts : List ByteArray, (tailC ts).size = Zfd ts
  | [] => rfl
  | t :: ts => by
    rw [tailC_cons, Zfd, ← tailC_size ts]
    simp only [Z9, bsz, List.size_toArray, List.length_cons, List.length_nil]; omega
theorem Zco : ∀ ts : List ByteArray, (Zcx ts).size ≤ Zfd ts
  | [] => Nat.le_refl _
  | t :: ts => by
    rw [Zcy, Zfd, Z9, tailC_size]; omega
theorem Ze8 : ∀ ts : List ByteArray, ts.length ≤ Zfd ts
  | [] => Nat.le_refl _
  | t :: ts => by rw [Zfd, List.length_cons]; have := Ze8 ts; omega
theorem joined_loop (xs : List Ex) (hx : ∀ a ∈ xs, Ev (fun k => Z1t k a) (txt a)) (hsz : Zfd (xs.map txt) < 1000000) : ∀ (rest pre : List Ex), xs = pre ++ rest →
    Ev (fun k => (Zz k).print_Joined_api_Expr_l1 xs ⟨#[44, 32]⟩ (pre.map txt) (pre.length : Int)) (Zcx (xs.map txt))
  | [], pre, h => by
    refine Ev.succ (Ev.now fun k => ?_)
    show Z2i k _ xs _ _ _ = _
    unfold Z2i Z4h
    have h' : xs = pre := by simpa using h
    subst h'
    have h1 := Ze8 (xs.map txt)
    have h2 := Zco (xs.map txt)
    rw [Z20] at h2
    rw [Z90 (by omega)]
    have e : (⟨#[44, 32]⟩ : ByteArray).data.toList = [44, 32] := rfl
    simp only [cond_false, e]
    rw [if_pos ⟨by omega, by have h3 : (Zcx (xs.map txt)).data.toList = Go.Lib.join ((xs.map txt).map (·.data.toList)) [44, 32] := rfl
                             rw [h3] at h2; omega⟩]
    rfl
  | x :: rest, pre, h => by
    have hl : xs.length = pre.length + 1 + rest.length := by rw [h]; simp; omega
    have hm : at? xs (pre.length : Int) = some x := by rw [h]; exact Z8y _ _ _
    have h1 := Ze8 (xs.map txt)
    rw [List.length_map] at h1
    obtain ⟨K1, hp⟩ := hx x (by rw [h]; simp)
    obtain ⟨K2, hn⟩ := joined_loop xs hx hsz rest (pre ++ [x]) (by rw [h]; simp)
    refine Ev.succ ⟨max K1 K2, fun k hk => ?_⟩
    have hp' : (Zz k).print_Of x = some (txt x) := hp k (by omega)
    have hn' : (Zz k).print_Joined_api_Expr_l1 xs ⟨#[44, 32]⟩ ((pre ++ [x]).map txt) ((pre ++ [x]).length : Int) = some (Zcx (xs.map txt)) := hn k (by omega)
    show Z2i k _ xs _ _ _ = _
    unfold Z2i Z6x
    rw [Z6r (by omega), hm]
    simp only [cond_true, Option.bind_some, Ex.eta, hp']
    rw [if_pos (by simp; omega), Z27 (by omega)]
    have e : (pre ++ [x]).map txt = pre.map txt ++ [txt x] := by simp
    have e2 : (pre ++ [x]).length = pre.length + 1 := by simp
    rw [e, e2] at hn'
    exact hn'
theorem exprs_loop (xs : List Ex) (hx : ∀ a ∈ xs, Ev (fun k => Z3g k a) (txt a)) (hsz : Zfd (xs.map txt) < 1000000) : ∀ (rest pre : List Ex), xs = pre ++ rest → pre ≠ [] → ∀ acc : ByteArray, acc.size + Zfd (rest.map txt) < 10000000 →
    Ev (fun k => (Zn k).ref03_Exprs_l1 xs acc (pre.length : Int)) (acc ++ tailC (rest.map txt))
  | [], pre, h, hpre, acc, hacc => by
    refine Ev.succ (Ev.now fun k => ?_)
    show Z4i k _ xs _ _ = _
    unfold Z4i
    have h' : xs = pre := by simpa using h
    subst h'
    rw [Z90 (by omega)]
    have : acc ++ tailC (([] : List Ex).map txt) = acc := Zdv acc
    rw [this]; rfl
  | x :: rest, pre, h, hpre, acc, hacc => by
    have hl : xs.length = pre.length + 1 + rest.length := by rw [h]; simp; omega
    have hm : at? xs (pre.length : Int) = some x := by rw [h]; exact Z8y _ _ _
    have h1 := Ze8 (xs.map txt)
    rw [List.length_map] at h1
    rw [List.map_cons, Zfd] at hacc
    have hp0 : 0 < pre.length := List.length_pos_iff.2 hpre
    obtain ⟨K1, hp⟩ := hx x (by rw [h]; simp)
    obtain ⟨K2, hn⟩ := exprs_loop xs hx hsz rest (pre ++ [x]) (by rw [h]; simp) (by simp) ((acc ++ ⟨#[44, 32]⟩) ++ txt x) (by simp only [Z9, bsz, List.size_toArray, List.length_cons, List.length_nil]; omega)
    refine Ev.succ ⟨max K1 K2, fun k hk => ?_⟩
    have hp' : (Zn k).ref03_Expr x = some (txt x) := hp k (by omega)
    have hn' : (Zn k).ref03_Exprs_l1 xs ((acc ++ ⟨#[44, 32]⟩) ++ txt x) ((pre ++ [x]).length : Int) = some (((acc ++ ⟨#[44, 32]⟩) ++ txt x) ++ tailC (rest.map txt)) := hn k (by omega)
    show Z4i k _ xs _ _ = _
    unfold Z4i Zca Zab Zc8
    rw [Z6r (by omega), Z6r (by omega), hm]
    simp only [cond_true, Option.bind_some, hp']
    rw [if_pos (by simp only [Z9, bsz, List.size_toArray, List.length_cons, List.length_nil]; omega), if_pos (by simp only [Z9, bsz, List.size_toArray, List.length_cons, List.length_nil]; omega), Z27 (by omega)]
    have e2 : (pre ++ [x]).length = pre.length + 1 := by simp
    rw [e2] at hn'
    rw [hn', List.map_cons, tailC_cons, ← ba_assoc, ← ba_assoc]
theorem joined_prog {xs : List Ex} (hx : ∀ a ∈ xs, Ev (fun k => Z1t k a) (txt a)) (hsz : Zfd (xs.map txt) < 1000000) : Ev (fun k => Zas k xs ⟨#[44, 32]⟩) (Zcx (xs.map txt)) :=
  Ev.succ (joined_loop xs hx hsz xs [] rfl)
theorem exprs_ref {xs : List Ex} (hx : ∀ a ∈ xs, Ev (fun k => Z3g k a) (txt a)) (hsz : Zfd (xs.map txt) < 1000000) : Ev (fun k => Z1y k xs) (Zcx (xs.map txt)) := by
  refine Ev.succ (f := fun k => Z1y k xs) ?_
  show Ev (fun k => (Zn k).ref03_Exprs_l1 xs ⟨#[]⟩ 0) _
  match xs, hx, hsz with
  | [], _, _ => exact Ev.succ (Ev.now fun k => rfl)
  | x :: rest, hx, hsz =>
    have hs' := hsz
    rw [List.map_cons, Zfd] at hsz
    have h1 := Ze8 (rest.map txt)
    rw [List.length_map] at h1
    obtain ⟨K1, hp⟩ := hx x (by simp)
    obtain ⟨K2, hn⟩ := exprs_loop (x :: rest) hx hs' rest [x] rfl (by simp) (txt x) (by omega)
    refine Ev.succ ⟨max K1 K2, fun k hk => ?_⟩
    have hp' : (Zn k).ref03_Expr x = some (txt x) := hp k (by omega)
    have hn' : (Zn k).ref03_Exprs_l1 (x :: rest) (txt x) 1 = some (txt x ++ tailC (rest.map txt)) := hn k (by omega)
    show Z4i k _ (x :: rest) _ _ = _
    unfold Z4i Zca Zab Zc8
    have hm : at? (x :: rest) 0 = some x := Z8y [] x rest
    rw [Z6r (by simp), hm]
    have d0 : decide ((0 : Int) < 0) = false := rfl
    simp only [cond_true, cond_false, d0, Option.bind_some, hp', ba_nil_app]
    rw [if_pos (by simp only [bsz, List.size_toArray, List.length_nil]; omega)]
    have w1 : IntKind.i64.wrap (0 + 1) = 1 := by decide
    rw [w1, hn', List.map_cons, Zcy]
end Go.Proofs.YtaknpdhmhifpeaaGreatDoor
