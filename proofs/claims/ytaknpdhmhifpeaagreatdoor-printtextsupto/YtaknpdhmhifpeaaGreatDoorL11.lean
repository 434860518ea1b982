import Derived.Test.YtaknpdhmhifpeaaGreatDoorL10
set_option linter.unusedVariables false
set_option linter.unusedSimpArgs false
namespace Go.Proofs.YtaknpdhmhifpeaaGreatDoor
open Go

/-! ### 67. Arms -/
theorem Z0f (a : Array UInt8) : (⟨a⟩ : ByteArray).data = a := rfl
structure AI (a : Ar) (b : ByteArray) : Prop where
  cond : ∃ c, a.cond = [c] ∧ Good c ∧ c.nodes ≤ 600
  body : SL a.body (b ++ ⟨#[32, 32]⟩)
structure AC (a : Ar) (b : ByteArray) : Prop where
  range : ∀ n ∈ a.labels, -9223372036854775808 ≤ n ∧ n ≤ 9223372036854775807
  body : SL a.body (b ++ ⟨#[32, 32, 32, 32]⟩)
theorem Zec : ∀ l : List Int, Zfd (l.map Zaq) ≤ 24 * l.length
  | [] => Nat.le_refl _
  | n :: l => by
    have h1 := itoaB_size n
    have h2 := Zec l
    rw [List.map_cons, Zfd, List.length_cons]; omega
theorem arT_if {a : Ar} {c : Ex} (h : a.cond = [c]) (i : List UInt8) : arT a false i = i ++ ([101, 108, 115, 105, 102, 32] ++ ((txt c).data.toList ++ ([32, 116, 104, 101, 110, 10] ++ slT a.body (i ++ [32, 32])))) := by
  obtain ⟨cond, labels, body⟩ := a
  have h' : cond = [c] := h
  subst h'
  rw [arT]; rfl
theorem arT_case (a : Ar) (i : List UInt8) : arT a true i = i ++ ([32, 32] ++ ((Zcx (a.labels.map Zaq)).data.toList ++ ([58, 10] ++ slT a.body (i ++ [32, 32, 32, 32])))) := by
  obtain ⟨cond, labels, body⟩ := a
  rw [arT]; rfl
theorem nodes_ar (a : Ar) : a.nodes = Z3c a.cond + Z3e a.body + 1 := by obtain ⟨cond, labels, body⟩ := a; rw [Ar.nodes]; rfl
theorem labs_ar (a : Ar) : a.labs = a.labels.length + Zc6 a.body := by obtain ⟨cond, labels, body⟩ := a; rw [Ar.labs]; rfl
theorem Zcq (c : Ex) : Z3c [c] = c.nodes := by simp [Z3c]
theorem blank2 (b : ByteArray) : (b ++ ⟨#[32, 32]⟩).data.toList = b.data.toList ++ [32, 32] := by rw [Z0l]
theorem blank4 (b : ByteArray) : (b ++ ⟨#[32, 32, 32, 32]⟩).data.toList = b.data.toList ++ [32, 32, 32, 32] := by rw [Z0l]
theorem ai_size {a : Ar} {b : ByteArray} (h : AI a b) (hb : b.size ≤ 100) : (arT a false b.data.toList).length ≤ 400 * a.nodes + 24 * a.labs := by
  obtain ⟨c, hc, hg, hcn⟩ := h.cond
  have h1 := hg.2
  have h2 := h.body.size
  rw [blank2] at h2
  have h3 := Z20 b
  have h4 := Z20 (txt c)
  rw [arT_if hc, nodes_ar, labs_ar, hc, Zcq]
  simp only [List.length_append, List.length_cons, List.length_nil]
  omega
theorem ac_size {a : Ar} {b : ByteArray} (h : AC a b) (hb : b.size ≤ 100) : (arT a true b.data.toList).length ≤ 400 * a.nodes + 24 * a.labs := by
  have h1 := Zec a.labels
  have h2 := h.body.size
  rw [blank4] at h2
  have h3 := Z20 b
  have h4 := Zco (a.labels.map Zaq)
  have h5 := Z20 (Zcx (a.labels.map Zaq))
  rw [arT_case, nodes_ar, labs_ar]
  simp only [List.length_append, List.length_cons, List.length_nil]
  omega
theorem alT_size {c : Bool} {i : List UInt8} : ∀ {l : List Ar}, (∀ a ∈ l, (arT a c i).length ≤ 400 * a.nodes + 24 * a.labs) → (alT l c i).length ≤ 400 * Z9p l + 24 * labsAL l
  | [], _ => by rw [alT]; exact Nat.zero_le _
  | a :: l, h => by
    have h1 := h a (by simp)
    have h2 := alT_size (l := l) (fun x hx => h x (by simp [hx]))
    rw [alT, Z9p, labsAL, List.length_append]; omega
/-! the program's arms -/
theorem arms_if_prog {s : St} {b : ByteArray} (hb : b.size ≤ 100) (hx : ∀ a ∈ s.arms, AI a b) (hlen : s.arms.length < 1000000) (ho : SL s.other (b ++ ⟨#[32, 32]⟩)) : ∀ (rest pre : List Ar), s.arms = pre ++ rest → ∀ (u : Bool) (acc : List UInt8),
    acc.length + (alT rest false b.data.toList ++ (otB s b.data.toList (slT s.other (b.data.toList ++ [32, 32])) ++ (b.data.toList ++ [101, 110, 100, 95, 105, 102, 59, 10]))).length < 900000000 →
    ∃ u', Ev (fun k => (Z3 k).print_printer_stmt_l2 s (pre.length : Int) u acc b s.arms) (u', acc ++ (alT rest false b.data.toList ++ (otB s b.data.toList (slT s.other (b.data.toList ++ [32, 32])) ++ (b.data.toList ++ [101, 110, 100, 95, 105, 102, 59, 10]))), b)
  | [], pre, h, u, acc, hacc => by
    rw [alT, List.nil_append] at hacc ⊢
    simp only [List.length_append, List.length_cons, List.length_nil] at hacc
    have hbl := Z20 b
    obtain ⟨u1, K, h1⟩ := other_prog ho (by omega) u acc (by omega)
    refine ⟨true, Ev.succ ⟨K, fun k hk => ?_⟩⟩
    have h1' : (Z3 k).print_printer_other u acc b s = _ := h1 k hk
    show Z39 k _ s _ _ _ _ _ = _
    unfold Z39
    rw [Z90 (by rw [h]; simp)]
    simp only [cond_false, St.eta, h1', Option.bind_some]
    rw [Z55 k (by simp only [List.length_append, bsz, List.size_toArray, List.length_cons, List.length_nil]; omega)]
    simp
  | a :: rest, pre, h, u, acc, hacc => by
    have hl : s.arms.length = pre.length + 1 + rest.length := by rw [h]; simp; omega
    have hm : at? s.arms (pre.length : Int) = some a := by rw [h]; exact Z8y _ _ _
    have ha := hx a (by rw [h]; simp)
    obtain ⟨c, hc, hg, hcn⟩ := ha.cond
    have hgs := hg.2
    have hcs := Z20 (txt c)
    rw [alT, arT_if hc] at hacc ⊢
    simp only [List.length_append, List.length_cons, List.length_nil] at hacc
    have hbl := Z20 b
    obtain ⟨K1, h1⟩ := hg.1.1
    obtain ⟨u2, K2, h2⟩ := Zep ha.body (by omega) true (acc ++ (b.data.toList ++ (([101, 108, 115, 105, 102, 32] ++ ((txt c).data.toList ++ [32, 116, 104, 101, 110])) ++ [10]))) (by simp only [List.length_append, List.length_cons, List.length_nil]; omega)
    obtain ⟨u3, K3, h3⟩ := arms_if_prog hb hx hlen ho rest (pre ++ [a]) (by rw [h]; simp) u2 ((acc ++ (b.data.toList ++ (([101, 108, 115, 105, 102, 32] ++ ((txt c).data.toList ++ [32, 116, 104, 101, 110])) ++ [10]))) ++ slT a.body (b.data.toList ++ [32, 32])) (by simp only [List.length_append, List.length_cons, List.length_nil]; omega)
    refine ⟨u3, Ev.succ ⟨max K1 (max K2 K3), fun k hk => ?_⟩⟩
    have h1' : Z1t k c = some (txt c) := h1 k (by omega)
    have h2' : (Z3 k).print_printer_text true _ b a.body = _ := h2 k (by omega)
    have h3' := h3 k (by omega)
    have hm2 : at? a.cond 0 = some c := by rw [hc]; rfl
    show Z39 k _ s _ _ _ _ _ = _
    unfold Z39 Z8t
    rw [Z6r (by omega), hm]
    simp only [cond_true, Option.bind_some, hm2, h1']
    have hcb : (txt c).size < 900000000 := by omega
    rw [if_pos (by simp only [Z9, bsz, List.size_toArray, List.length_cons, List.length_nil]; omega), if_pos (by simp only [Z9, bsz, List.size_toArray, List.length_cons, List.length_nil]; omega), Z55 k (by simp only [Z9, bsz, List.size_toArray, List.length_cons, List.length_nil]; omega)]
    have e : ((⟨#[101, 108, 115, 105, 102, 32]⟩ ++ txt c) ++ ⟨#[32, 116, 104, 101, 110]⟩ : ByteArray).data.toList = [101, 108, 115, 105, 102, 32] ++ ((txt c).data.toList ++ [32, 116, 104, 101, 110]) := by simp [Z0l]
    simp only [Option.bind_some, e, h2']
    have e2 : (pre ++ [a]).length = pre.length + 1 := by simp
    rw [Z27 (by omega), ← e2]
    refine Eq.trans h3' ?_
    simp
theorem arms_case_prog (arms : List Ar) {b : ByteArray} (hb : b.size ≤ 100) (hx : ∀ a ∈ arms, AC a b) (hlen : arms.length < 1000000) (hlab : ∀ a ∈ arms, a.labels.length < 2000000) (ys : List Ar) : ∀ (rest pre : List Ar), arms = pre ++ rest → ∀ (u : Bool) (acc : List UInt8), acc.length + (alT rest true b.data.toList).length < 900000000 →
    ∃ u', Ev (fun k => (Z3 k).print_printer_stmt_1_l1 arms (pre.length : Int) ys u acc (b ++ ⟨#[32, 32]⟩)) (u', acc ++ alT rest true b.data.toList, b ++ ⟨#[32, 32]⟩)
  | [], pre, h, u, acc, hacc => by
    refine ⟨u, Ev.succ (Ev.now fun k => ?_)⟩
    show Z2t k _ arms _ _ _ _ _ = _
    unfold Z2t
    rw [Z90 (by rw [h]; simp), alT, List.append_nil]; rfl
  | a :: rest, pre, h, u, acc, hacc => by
    have hl : arms.length = pre.length + 1 + rest.length := by rw [h]; simp; omega
    have hm : at? arms (pre.length : Int) = some a := by rw [h]; exact Z8y _ _ _
    have ha := hx a (by rw [h]; simp)
    have hla := hlab a (by rw [h]; simp)
    have hsl := Zec a.labels
    have hjs := Zco (a.labels.map Zaq)
    have hjl := Z20 (Zcx (a.labels.map Zaq))
    rw [alT, arT_case] at hacc ⊢
    simp only [List.length_append, List.length_cons, List.length_nil] at hacc
    have hbl := Z20 b
    have e4 : (b ++ ⟨#[32, 32]⟩) ++ ⟨#[32, 32]⟩ = b ++ ⟨#[32, 32, 32, 32]⟩ := Z9u (by simp [Z0l])
    have hbody : SL a.body ((b ++ ⟨#[32, 32]⟩) ++ ⟨#[32, 32]⟩) := by rw [e4]; exact ha.body
    obtain ⟨K1, h1⟩ := jint_prog ha.range hla (by omega)
    have hbb : (b ++ ⟨#[32, 32]⟩ : ByteArray).size = b.size + 2 := by simp only [Z9, bsz, List.size_toArray, List.length_cons, List.length_nil]
    have e5 : (b.data.toList ++ [32, 32]) ++ [32, 32] = b.data.toList ++ [32, 32, 32, 32] := by simp
    obtain ⟨u2, K2, h2⟩ := Zep hbody (by omega) true (acc ++ ((b ++ ⟨#[32, 32]⟩).data.toList ++ (((Zcx (a.labels.map Zaq)).data.toList ++ [58]) ++ [10]))) (by rw [blank2, e5]; simp only [List.length_append, List.length_cons, List.length_nil]; omega)
    rw [blank2, e5] at h2
    obtain ⟨u3, K3, h3⟩ := arms_case_prog arms hb hx hlen hlab ys rest (pre ++ [a]) (by rw [h]; simp) u2 ((acc ++ ((b.data.toList ++ [32, 32]) ++ (((Zcx (a.labels.map Zaq)).data.toList ++ [58]) ++ [10]))) ++ slT a.body (b.data.toList ++ [32, 32, 32, 32])) (by simp only [List.length_append, List.length_cons, List.length_nil]; omega)
    refine ⟨u3, Ev.succ ⟨max K1 (max K2 K3), fun k hk => ?_⟩⟩
    have h1' : Z8q k a.labels ⟨#[44, 32]⟩ = some (Zcx (a.labels.map Zaq)) := h1 k (by omega)
    have h2' : (Z3 k).print_printer_text true _ (b ++ ⟨#[32, 32]⟩) a.body = _ := h2 k (by omega)
    have h3' := h3 k (by omega)
    show Z2t k _ arms _ _ _ _ _ = _
    unfold Z2t Z7k
    rw [Z6r (by omega), hm]
    simp only [cond_true, Option.bind_some, h1']
    rw [if_pos (by simp only [Z9, bsz, List.size_toArray, List.length_cons, List.length_nil]; omega), Z55 k (by simp only [Z9, bsz, List.size_toArray, List.length_cons, List.length_nil]; omega)]
    have e : ((Zcx (a.labels.map Zaq)) ++ ⟨#[58]⟩ : ByteArray).data.toList = (Zcx (a.labels.map Zaq)).data.toList ++ [58] := by rw [Z0l]
    simp only [Option.bind_some, e, blank2, h2']
    have e2 : (pre ++ [a]).length = pre.length + 1 := by simp
    rw [Z27 (by omega), ← e2]
    refine Eq.trans h3' ?_
    simp
/-! the reference's arms -/
theorem arms_if_ref {s : St} {b : ByteArray} (hb : b.size ≤ 100) (hx : ∀ a ∈ s.arms, AI a b) (hlen : s.arms.length < 1000000) (ho : SL s.other (b ++ ⟨#[32, 32]⟩)) (hos : (slT s.other (b.data.toList ++ [32, 32])).length < 100000000) : ∀ (rest pre : List Ar), s.arms = pre ++ rest → ∀ (acc : List UInt8),
    acc.length + (alT rest false b.data.toList).length < 900000000 →
    Ev (fun k => (Zo k).ref03_stmt_l2 s b (bB acc) (pre.length : Int) s.arms) (bB (acc ++ (alT rest false b.data.toList ++ (otB s b.data.toList (slT s.other (b.data.toList ++ [32, 32])) ++ (b.data.toList ++ [101, 110, 100, 95, 105, 102, 59, 10])))))
  | [], pre, h, acc, hacc => by
    rw [alT, List.nil_append] at *
    have hbl := Z20 b
    have hot : (otB s b.data.toList (slT s.other (b.data.toList ++ [32, 32]))).length < 200000000 := by
      unfold otB
      cases s.els
      · simp
      · simp only [cond_true, List.length_append, List.length_cons, List.length_nil]; omega
    obtain ⟨K, h1⟩ := other_ref ho (by omega) (by omega)
    refine Ev.succ ⟨K, fun k hk => ?_⟩
    have h1' : (Zo k).ref03_other s b = _ := h1 k hk
    show Z7d k _ s _ _ _ _ = _
    unfold Z7d
    rw [Z90 (by rw [h]; simp)]
    simp only [cond_false, St.eta, h1', Option.bind_some, bB_app]
    simp only [List.length_nil] at hacc
    rw [if_pos (by simp only [Z01]; omega), if_pos (by simp only [Z01, List.length_append]; omega), if_pos (by simp only [Z9, Z01, List.length_append, bsz, List.size_toArray, List.length_cons, List.length_nil]; omega)]
    congr 1
    apply Z9u
    simp [Z0l, bB]
  | a :: rest, pre, h, acc, hacc => by
    have hl : s.arms.length = pre.length + 1 + rest.length := by rw [h]; simp; omega
    have hm : at? s.arms (pre.length : Int) = some a := by rw [h]; exact Z8y _ _ _
    have ha := hx a (by rw [h]; simp)
    obtain ⟨c, hc, hg, hcn⟩ := ha.cond
    have hgs := hg.2
    have hcs := Z20 (txt c)
    rw [alT, arT_if hc] at hacc ⊢
    simp only [List.length_append, List.length_cons, List.length_nil] at hacc
    have hbl := Z20 b
    have hj : Zcx (a.cond.map txt) = txt c := by
      rw [hc]
      show Zcx [txt c] = _
      rw [Zcy]; exact Zdv _
    obtain ⟨K1, h1⟩ := exprs_ref (xs := a.cond) (fun y hy => by
      rw [hc] at hy
      have : y = c := by simpa using hy
      subst this
      exact hg.1.2) (by rw [hc]; show Zfd [txt c] < _; simp only [Zfd]; omega)
    rw [hj] at h1
    obtain ⟨K2, h2⟩ := ha.body.ref
    rw [blank2] at h2
    obtain ⟨K3, h3⟩ := arms_if_ref hb hx hlen ho hos rest (pre ++ [a]) (by rw [h]; simp) (acc ++ (b.data.toList ++ ([101, 108, 115, 105, 102, 32] ++ ((txt c).data.toList ++ ([32, 116, 104, 101, 110, 10] ++ slT a.body (b.data.toList ++ [32, 32])))))) (by simp only [List.length_append, List.length_cons, List.length_nil]; omega)
    refine Ev.succ ⟨max K1 (max K2 K3), fun k hk => ?_⟩
    have h1' : Z1y k a.cond = some (txt c) := h1 k (by omega)
    have h2' : (Zo k).ref03_Stmts a.body (b ++ ⟨#[32, 32]⟩) = _ := h2 k (by omega)
    have h3' := h3 k (by omega)
    show Z7d k _ s _ _ _ _ = _
    unfold Z7d ref03_stmt_j3
    rw [Z6r (by omega), hm]
    simp only [cond_true, Option.bind_some]
    rw [if_pos (by simp only [Z01]; omega), if_pos (by simp only [Z9, Z01, bsz, List.size_toArray, List.length_cons, List.length_nil]; omega), h1']
    simp only [Option.bind_some]
    rw [if_pos (by simp only [Z9, Z01, bsz, List.size_toArray, List.length_cons, List.length_nil]; omega), if_pos (by simp only [Z9, Z01, bsz, List.size_toArray, List.length_cons, List.length_nil]; omega), if_pos (by simp only [bsz, List.size_toArray, List.length_cons, List.length_nil]; omega), h2']
    simp only [Option.bind_some]
    have e2 : (pre ++ [a]).length = pre.length + 1 := by simp
    rw [if_pos (by simp only [Z9, Z01, bsz, List.size_toArray, List.length_cons, List.length_nil]; omega), Z27 (by omega), ← e2]
    have e6 : ((((bB acc ++ b) ++ ⟨#[101, 108, 115, 105, 102, 32]⟩) ++ txt c) ++ ⟨#[32, 116, 104, 101, 110, 10]⟩) ++ bB (slT a.body (b.data.toList ++ [32, 32])) = bB (acc ++ (b.data.toList ++ ([101, 108, 115, 105, 102, 32] ++ ((txt c).data.toList ++ ([32, 116, 104, 101, 110, 10] ++ slT a.body (b.data.toList ++ [32, 32])))))) := by
      apply Z9u
      simp [Z0l, bB]
    rw [e6]
    refine Eq.trans h3' ?_
    simp
theorem arms_case_ref {s : St} {b : ByteArray} (hb : b.size ≤ 100) (hx : ∀ a ∈ s.arms, AC a b) (hlab : ∀ a ∈ s.arms, a.labels.length < 2000000) (hlen : s.arms.length < 1000000) (ho : SL s.other (b ++ ⟨#[32, 32]⟩)) (hos : (slT s.other (b.data.toList ++ [32, 32])).length < 100000000) : ∀ (rest pre : List Ar), s.arms = pre ++ rest → ∀ (acc : List UInt8),
    acc.length + (alT rest true b.data.toList).length < 900000000 →
    Ev (fun k => (Zo k).ref03_stmt_l4 s b (bB acc) (pre.length : Int) s.arms) (bB (acc ++ (alT rest true b.data.toList ++ (otB s b.data.toList (slT s.other (b.data.toList ++ [32, 32])) ++ (b.data.toList ++ [101, 110, 100, 95, 99, 97, 115, 101, 59, 10])))))
  | [], pre, h, acc, hacc => by
    rw [alT, List.nil_append] at *
    have hbl := Z20 b
    have hot : (otB s b.data.toList (slT s.other (b.data.toList ++ [32, 32]))).length < 200000000 := by
      unfold otB
      cases s.els
      · simp
      · simp only [cond_true, List.length_append, List.length_cons, List.length_nil]; omega
    obtain ⟨K, h1⟩ := other_ref ho (by omega) (by omega)
    refine Ev.succ ⟨K, fun k hk => ?_⟩
    have h1' : (Zo k).ref03_other s b = _ := h1 k hk
    show Z7f k _ s _ _ _ _ = _
    unfold Z7f
    rw [Z90 (by rw [h]; simp)]
    simp only [cond_false, St.eta, h1', Option.bind_some, bB_app]
    simp only [List.length_nil] at hacc
    rw [if_pos (by simp only [Z01]; omega), if_pos (by simp only [Z01, List.length_append]; omega), if_pos (by simp only [Z9, Z01, List.length_append, bsz, List.size_toArray, List.length_cons, List.length_nil]; omega)]
    congr 1
    apply Z9u
    simp [Z0l, bB]
  | a :: rest, pre, h, acc, hacc => by
    have hl : s.arms.length = pre.length + 1 + rest.length := by rw [h]; simp; omega
    have hm : at? s.arms (pre.length : Int) = some a := by rw [h]; exact Z8y _ _ _
    have ha := hx a (by rw [h]; simp)
    have hla := hlab a (by rw [h]; simp)
    have hsl := Zec a.labels
    have hjs := Zco (a.labels.map Zaq)
    have hjl := Z20 (Zcx (a.labels.map Zaq))
    rw [alT, arT_case] at hacc ⊢
    simp only [List.length_append, List.length_cons, List.length_nil] at hacc
    have hbl := Z20 b
    obtain ⟨K1, h1⟩ := labels_ref ha.range hla (by omega)
    obtain ⟨K2, h2⟩ := ha.body.ref
    rw [blank4] at h2
    obtain ⟨K3, h3⟩ := arms_case_ref hb hx hlab hlen ho hos rest (pre ++ [a]) (by rw [h]; simp) (acc ++ (b.data.toList ++ ([32, 32] ++ ((Zcx (a.labels.map Zaq)).data.toList ++ ([58, 10] ++ slT a.body (b.data.toList ++ [32, 32, 32, 32])))))) (by simp only [List.length_append, List.length_cons, List.length_nil]; omega)
    refine Ev.succ ⟨max K1 (max K2 K3), fun k hk => ?_⟩
    have h1' : Za9 k a.labels = some (Zcx (a.labels.map Zaq)) := h1 k (by omega)
    have h2' : (Zo k).ref03_Stmts a.body (b ++ ⟨#[32, 32, 32, 32]⟩) = _ := h2 k (by omega)
    have h3' := h3 k (by omega)
    show Z7f k _ s _ _ _ _ = _
    unfold Z7f ref03_stmt_j5
    rw [Z6r (by omega), hm]
    simp only [cond_true, Option.bind_some]
    rw [if_pos (by simp only [Z01]; omega), if_pos (by simp only [Z9, Z01, bsz, List.size_toArray, List.length_cons, List.length_nil]; omega), h1']
    simp only [Option.bind_some]
    rw [if_pos (by simp only [Z9, Z01, bsz, List.size_toArray, List.length_cons, List.length_nil]; omega), if_pos (by simp only [Z9, Z01, bsz, List.size_toArray, List.length_cons, List.length_nil]; omega), if_pos (by simp only [bsz, List.size_toArray, List.length_cons, List.length_nil]; omega), h2']
    simp only [Option.bind_some]
    have e2 : (pre ++ [a]).length = pre.length + 1 := by simp
    rw [if_pos (by simp only [Z9, Z01, bsz, List.size_toArray, List.length_cons, List.length_nil]; omega), Z27 (by omega), ← e2]
    have e6 : ((((bB acc ++ b) ++ ⟨#[32, 32]⟩) ++ Zcx (a.labels.map Zaq)) ++ ⟨#[58, 10]⟩) ++ bB (slT a.body (b.data.toList ++ [32, 32, 32, 32])) = bB (acc ++ (b.data.toList ++ ([32, 32] ++ ((Zcx (a.labels.map Zaq)).data.toList ++ ([58, 10] ++ slT a.body (b.data.toList ++ [32, 32, 32, 32])))))) := by
      apply Z9u
      simp [Z0l, bB]
    rw [e6]
    refine Eq.trans h3' ?_
    simp
end Go.Proofs.YtaknpdhmhifpeaaGreatDoor
