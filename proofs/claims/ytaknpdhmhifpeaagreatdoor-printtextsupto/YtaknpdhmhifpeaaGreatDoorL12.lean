import Derived.Test.YtaknpdhmhifpeaaGreatDoorL11
set_option linter.unusedVariables false
set_option linter.unusedSimpArgs false
namespace Go.Proofs.YtaknpdhmhifpeaaGreatDoor
open Go

/-! ### 68. Statements: both texts are one -/
theorem stT_eq (s : St) (i : List UInt8) : stT s i =
    bif s.op == 1 then i ++ (s.name.data.toList ++ ((bif s.index.isEmpty then [] else 91 :: (tx s.index 0 ++ [93])) ++ ([32, 58, 61, 32] ++ (tx s.args 0 ++ [59, 10]))))
    else bif s.op == 2 then i ++ (s.name.data.toList ++ (40 :: ((Zcx (fT s.fields s.args)).data.toList ++ [41, 59, 10])))
    else bif s.op == 3 then i ++ ([105, 102, 32] ++ (tx s.args 0 ++ ([32, 116, 104, 101, 110, 10] ++ (slT s.body (i ++ [32, 32]) ++ (alT s.arms false i ++ (otB s i (slT s.other (i ++ [32, 32])) ++ (i ++ [101, 110, 100, 95, 105, 102, 59, 10])))))))
    else bif s.op == 4 then i ++ ([99, 97, 115, 101, 32] ++ (tx s.args 0 ++ ([32, 111, 102, 10] ++ (alT s.arms true i ++ (otB s i (slT s.other (i ++ [32, 32])) ++ (i ++ [101, 110, 100, 95, 99, 97, 115, 101, 59, 10]))))))
    else bif s.op == 5 then i ++ ([102, 111, 114, 32] ++ (s.name.data.toList ++ ([32, 58, 61, 32] ++ (tx s.args 0 ++ ([32, 116, 111, 32] ++ (tx s.args 1 ++ ((bif s.n != 1 then [32, 98, 121, 32] ++ (Zaq s.n).data.toList else []) ++ ([32, 100, 111, 10] ++ (slT s.body (i ++ [32, 32]) ++ (i ++ [101, 110, 100, 95, 102, 111, 114, 59, 10]))))))))))
    else bif s.op == 6 then i ++ ([119, 104, 105, 108, 101, 32] ++ (tx s.args 0 ++ ([32, 100, 111, 10] ++ (slT s.body (i ++ [32, 32]) ++ (i ++ [101, 110, 100, 95, 119, 104, 105, 108, 101, 59, 10])))))
    else bif s.op == 7 then i ++ ([114, 101, 112, 101, 97, 116, 10] ++ (slT s.body (i ++ [32, 32]) ++ (i ++ ([117, 110, 116, 105, 108, 32] ++ (tx s.args 0 ++ (10 :: (i ++ [101, 110, 100, 95, 114, 101, 112, 101, 97, 116, 59, 10])))))))
    else bif s.op == 8 then i ++ [101, 120, 105, 116, 59, 10]
    else i ++ [114, 101, 116, 117, 114, 110, 59, 10] := by
  cases s
  rw [stT]
  rfl
theorem one_ref {l : List Ex} {a : Ex} (h : l = [a]) (hg : Good a) (hn : a.nodes ≤ 600) : Ev (fun k => Z1y k l) (txt a) := by
  subst h
  have hj : Zcx ([a].map txt) = txt a := by
    show Zcx [txt a] = _
    rw [Zcy]; exact Zdv _
  have h := exprs_ref (xs := [a]) (fun y hy => by
    have : y = a := by simpa using hy
    subst this
    exact hg.1.2) (by show Zfd [txt a] < _; simp only [Zfd]; have := hg.2; omega)
  rw [hj] at h
  exact h
/-- the parts of a statement -/
structure Parts (s : St) (b : ByteArray) : Prop where
  bsize : b.size ≤ 100
  body : SL s.body (b ++ ⟨#[32, 32]⟩)
  other : SL s.other (b ++ ⟨#[32, 32]⟩)
  few : 400 * s.nodes + 24 * s.labs < 100000000
  len : s.arms.length < 1000000
theorem Zcv (s : St) : s.nodes = Z9p s.arms + (Z3c s.index + (Z3c s.args + (Z3e s.body + Z3e s.other))) + 1 := by cases s; rw [St.nodes]; rfl
theorem labs_st (s : St) : s.labs = Zc6 s.body + labsAL s.arms + Zc6 s.other := by cases s; rw [St.labs]; rfl
theorem sg_exit {s : St} {b : ByteArray} (P : Parts s b) (hop : s.op = 8) : SG s b := by
  have hb := P.bsize
  have hbl := Z20 b
  have hst : stT s b.data.toList = b.data.toList ++ [101, 120, 105, 116, 59, 10] := by
    rw [stT_eq, hop]; rfl
  refine ⟨?_, fun u xs hs => ?_, ?_⟩
  · rw [hst]
    refine Ev.succ (Ev.now fun k => ?_)
    show Z1r k _ s b = _
    unfold Z1r
    rw [hop]
    show (if b.size + (⟨#[101, 120, 105, 116, 59, 10]⟩ : ByteArray).size < 1000000000000 then some (b ++ ⟨#[101, 120, 105, 116, 59, 10]⟩) else none) = _
    rw [if_pos (by first | omega | (simp only [Z9, Z01, bsz, Z0l, Z0f, List.toList_toArray, List.size_toArray, List.length_cons, List.length_nil, List.length_append]; omega))]
    all_goals (refine congrArg some (Z9u ?_); simp [Z0l, bB])
  · rw [hst] at hs ⊢
    simp only [List.length_append, List.length_cons, List.length_nil] at hs
    refine ⟨true, Ev.succ (Ev.now fun k => ?_)⟩
    show Z00 k _ u xs b s = _
    unfold Z00
    rw [hop]
    show (Z08 k u xs b ⟨#[101, 120, 105, 116, 59]⟩).bind _ = _
    rw [Z55 k (by first | omega | (simp only [Z9, Z01, bsz, Z0l, Z0f, List.toList_toArray, List.size_toArray, List.length_cons, List.length_nil, List.length_append]; omega))]
    rfl
  · rw [hst, Zcv, List.length_append]
    simp only [List.length_cons, List.length_nil]
    omega
theorem sg_return {s : St} {b : ByteArray} (P : Parts s b) (hop : s.op = 9) : SG s b := by
  have hb := P.bsize
  have hbl := Z20 b
  have hst : stT s b.data.toList = b.data.toList ++ [114, 101, 116, 117, 114, 110, 59, 10] := by
    rw [stT_eq, hop]; rfl
  refine ⟨?_, fun u xs hs => ?_, ?_⟩
  · rw [hst]
    refine Ev.succ (Ev.now fun k => ?_)
    show Z1r k _ s b = _
    unfold Z1r ref03_stmt_j7
    rw [hop]
    show (if b.size + (⟨#[114, 101, 116, 117, 114, 110, 59, 10]⟩ : ByteArray).size < 1000000000000 then some (b ++ ⟨#[114, 101, 116, 117, 114, 110, 59, 10]⟩) else none) = _
    rw [if_pos (by first | omega | (simp only [Z9, Z01, bsz, Z0l, Z0f, List.toList_toArray, List.size_toArray, List.length_cons, List.length_nil, List.length_append]; omega))]
    all_goals (refine congrArg some (Z9u ?_); simp [Z0l, bB])
  · rw [hst] at hs ⊢
    simp only [List.length_append, List.length_cons, List.length_nil] at hs
    refine ⟨true, Ev.succ (Ev.now fun k => ?_)⟩
    show Z00 k _ u xs b s = _
    unfold Z00
    rw [hop]
    show (Z08 k u xs b ⟨#[114, 101, 116, 117, 114, 110, 59]⟩).bind _ = _
    rw [Z55 k (by first | omega | (simp only [Z9, Z01, bsz, Z0l, Z0f, List.toList_toArray, List.size_toArray, List.length_cons, List.length_nil, List.length_append]; omega))]
    rfl
  · rw [hst, Zcv, List.length_append]
    simp only [List.length_cons, List.length_nil]
    omega
theorem sg_set {s : St} {b : ByteArray} (P : Parts s b) (hop : s.op = 1) (hnm : s.name.size ≤ 12) {a : Ex} (ha : s.args = [a]) (hg : Good a) (hn : a.nodes ≤ 600) (hi : s.index = [] ∨ ∃ c, s.index = [c] ∧ Good c ∧ c.nodes ≤ 600) : SG s b := by
  have hb := P.bsize
  have hbl := Z20 b
  have hnl := Z20 s.name
  have hal := Z20 (txt a)
  have hgs := hg.2
  have hla : Z3c s.args = a.nodes := by rw [ha]; exact Zcq a
  have at0 : at? s.args 0 = some a := by rw [ha]; rfl
  obtain ⟨K1, h1⟩ := hg.1.1
  obtain ⟨K2, h2⟩ := one_ref ha hg hn
  rcases hi with hi | ⟨c, hi, hc, hcn⟩
  · have hst : stT s b.data.toList = b.data.toList ++ (s.name.data.toList ++ ([32, 58, 61, 32] ++ ((txt a).data.toList ++ [59, 10]))) := by
      rw [stT_eq, hop, tx_0 ha, hi]; rfl
    have d0 : decide ((0 : Int) < (s.index.length : Int)) = false := by rw [hi]; rfl
    refine ⟨?_, fun u xs hs => ?_, ?_⟩
    · rw [hst]
      refine Ev.succ ⟨K2, fun k hk => ?_⟩
      have h2' : Z1y k s.args = some (txt a) := h2 k hk
      show Z1r k _ s b = _
      unfold Z1r Zbr
      rw [hop, d0]
      simp only [Int.reduceBEq, cond_true, cond_false]
      rw [if_pos (by first | omega | (simp only [Z9, Z01, bsz, Z0l, Z0f, List.toList_toArray, List.size_toArray, List.length_cons, List.length_nil, List.length_append]; omega)), if_pos (by first | omega | (simp only [Z9, Z01, bsz, Z0l, Z0f, List.toList_toArray, List.size_toArray, List.length_cons, List.length_nil, List.length_append]; omega)), h2']
      simp only [Option.bind_some]
      rw [if_pos (by first | omega | (simp only [Z9, Z01, bsz, Z0l, Z0f, List.toList_toArray, List.size_toArray, List.length_cons, List.length_nil, List.length_append]; omega)), if_pos (by first | omega | (simp only [Z9, Z01, bsz, Z0l, Z0f, List.toList_toArray, List.size_toArray, List.length_cons, List.length_nil, List.length_append]; omega))]
      all_goals (refine congrArg some (Z9u ?_); simp [Z0l, bB])
    · rw [hst] at hs ⊢
      simp only [List.length_append, List.length_cons, List.length_nil] at hs
      refine ⟨true, Ev.succ ⟨K1, fun k hk => ?_⟩⟩
      have h1' : Z1t k a = some (txt a) := h1 k hk
      show Z00 k _ u xs b s = _
      unfold Z00 Z52
      rw [hop, d0]
      simp only [Int.reduceBEq, cond_true, cond_false]
      rw [if_pos (by first | omega | (simp only [Z9, Z01, bsz, Z0l, Z0f, List.toList_toArray, List.size_toArray, List.length_cons, List.length_nil, List.length_append]; omega)), at0]
      simp only [Option.bind_some, h1']
      rw [if_pos (by first | omega | (simp only [Z9, Z01, bsz, Z0l, Z0f, List.toList_toArray, List.size_toArray, List.length_cons, List.length_nil, List.length_append]; omega)), if_pos (by first | omega | (simp only [Z9, Z01, bsz, Z0l, Z0f, List.toList_toArray, List.size_toArray, List.length_cons, List.length_nil, List.length_append]; omega)), Z55 k (by first | omega | (simp only [Z9, Z01, bsz, Z0l, Z0f, List.toList_toArray, List.size_toArray, List.length_cons, List.length_nil, List.length_append]; omega))]
      simp [Z0l]
    · rw [hst, Zcv, hla]
      simp only [List.length_append, List.length_cons, List.length_nil]
      omega
  · have hcl := Z20 (txt c)
    have hcs := hc.2
    have hli : Z3c s.index = c.nodes := by rw [hi]; exact Zcq c
    have hst : stT s b.data.toList = b.data.toList ++ (s.name.data.toList ++ ((91 :: ((txt c).data.toList ++ [93])) ++ ([32, 58, 61, 32] ++ ((txt a).data.toList ++ [59, 10])))) := by
      rw [stT_eq, hop, tx_0 ha, tx_0 hi, hi]; rfl
    have d0 : decide ((0 : Int) < (s.index.length : Int)) = true := by rw [hi]; rfl
    have ati : at? s.index 0 = some c := by rw [hi]; rfl
    obtain ⟨K3, h3⟩ := hc.1.1
    obtain ⟨K4, h4⟩ := one_ref hi hc hcn
    refine ⟨?_, fun u xs hs => ?_, ?_⟩
    · rw [hst]
      refine Ev.succ ⟨max K2 K4, fun k hk => ?_⟩
      have h2' : Z1y k s.args = some (txt a) := h2 k (by omega)
      have h4' : Z1y k s.index = some (txt c) := h4 k (by omega)
      show Z1r k _ s b = _
      unfold Z1r Zbr
      rw [hop, d0]
      simp only [Int.reduceBEq, cond_true, cond_false]
      rw [if_pos (by first | omega | (simp only [Z9, Z01, bsz, Z0l, Z0f, List.toList_toArray, List.size_toArray, List.length_cons, List.length_nil, List.length_append]; omega)), h4']
      simp only [Option.bind_some]
      rw [if_pos (by first | omega | (simp only [Z9, Z01, bsz, Z0l, Z0f, List.toList_toArray, List.size_toArray, List.length_cons, List.length_nil, List.length_append]; omega)), if_pos (by first | omega | (simp only [Z9, Z01, bsz, Z0l, Z0f, List.toList_toArray, List.size_toArray, List.length_cons, List.length_nil, List.length_append]; omega)), if_pos (by first | omega | (simp only [Z9, Z01, bsz, Z0l, Z0f, List.toList_toArray, List.size_toArray, List.length_cons, List.length_nil, List.length_append]; omega)), if_pos (by first | omega | (simp only [Z9, Z01, bsz, Z0l, Z0f, List.toList_toArray, List.size_toArray, List.length_cons, List.length_nil, List.length_append]; omega)), h2']
      simp only [Option.bind_some]
      rw [if_pos (by first | omega | (simp only [Z9, Z01, bsz, Z0l, Z0f, List.toList_toArray, List.size_toArray, List.length_cons, List.length_nil, List.length_append]; omega)), if_pos (by first | omega | (simp only [Z9, Z01, bsz, Z0l, Z0f, List.toList_toArray, List.size_toArray, List.length_cons, List.length_nil, List.length_append]; omega))]
      all_goals (refine congrArg some (Z9u ?_); simp [Z0l, bB])
    · rw [hst] at hs ⊢
      simp only [List.length_append, List.length_cons, List.length_nil] at hs
      refine ⟨true, Ev.succ ⟨max K1 K3, fun k hk => ?_⟩⟩
      have h1' : Z1t k a = some (txt a) := h1 k (by omega)
      have h3' : Z1t k c = some (txt c) := h3 k (by omega)
      show Z00 k _ u xs b s = _
      unfold Z00 Z52
      rw [hop, d0]
      simp only [Int.reduceBEq, cond_true, cond_false, ati, Option.bind_some, h3']
      rw [if_pos (by first | omega | (simp only [Z9, Z01, bsz, Z0l, Z0f, List.toList_toArray, List.size_toArray, List.length_cons, List.length_nil, List.length_append]; omega)), if_pos (by first | omega | (simp only [Z9, Z01, bsz, Z0l, Z0f, List.toList_toArray, List.size_toArray, List.length_cons, List.length_nil, List.length_append]; omega)), if_pos (by first | omega | (simp only [Z9, Z01, bsz, Z0l, Z0f, List.toList_toArray, List.size_toArray, List.length_cons, List.length_nil, List.length_append]; omega)), if_pos (by first | omega | (simp only [Z9, Z01, bsz, Z0l, Z0f, List.toList_toArray, List.size_toArray, List.length_cons, List.length_nil, List.length_append]; omega)), at0]
      simp only [Option.bind_some, h1']
      rw [if_pos (by first | omega | (simp only [Z9, Z01, bsz, Z0l, Z0f, List.toList_toArray, List.size_toArray, List.length_cons, List.length_nil, List.length_append]; omega)), if_pos (by first | omega | (simp only [Z9, Z01, bsz, Z0l, Z0f, List.toList_toArray, List.size_toArray, List.length_cons, List.length_nil, List.length_append]; omega)), Z55 k (by first | omega | (simp only [Z9, Z01, bsz, Z0l, Z0f, List.toList_toArray, List.size_toArray, List.length_cons, List.length_nil, List.length_append]; omega))]
      simp [Z0l]
    · rw [hst, Zcv, hla, hli]
      simp only [List.length_append, List.length_cons, List.length_nil]
      omega
theorem sg_call {s : St} {b : ByteArray} (P : Parts s b) (hop : s.op = 2) (hnm : s.name.size ≤ 12) (hl : s.fields.length = s.args.length) (hf : ∀ f ∈ s.fields, f.size ≤ 12) (hg : ∀ a ∈ s.args, Good a) (hN : Z3c s.args ≤ 600) : SG s b := by
  have hb := P.bsize
  have hbl := Z20 b
  have hnl := Z20 s.name
  have hfs : ∀ (fs : List ByteArray) (es : List Ex), fs.length = es.length → (∀ f ∈ fs, f.size ≤ 12) → (∀ a ∈ es, Good a) → Zfd (fT fs es) ≤ 60 * Z3c es := by
    intro fs
    induction fs with
    | nil => intro es _ _ _; cases es <;> exact Nat.zero_le _
    | cons f fs ih =>
      intro es h1 h2 h3
      match es, h1 with
      | a :: es, h1 =>
        have q1 := ih es (by simpa using h1) (fun x hx => h2 x (by simp [hx])) (fun x hx => h3 x (by simp [hx]))
        have q2 := h2 f (by simp)
        have q3 := (h3 a (by simp)).2
        have q4 := nodes_pos a
        rw [fT, Zfd, Z3c]
        simp only [Z9, bsz, List.size_toArray, List.length_cons, List.length_nil]
        omega
  have hsz := hfs s.fields s.args hl hf hg
  have hja := Zco (fT s.fields s.args)
  have hjl := Z20 (Zcx (fT s.fields s.args))
  have hln := nodesL_len s.args
  have hst : stT s b.data.toList = b.data.toList ++ (s.name.data.toList ++ (40 :: ((Zcx (fT s.fields s.args)).data.toList ++ [41, 59, 10]))) := by
    rw [stT_eq, hop]; rfl
  obtain ⟨K1, h1⟩ := inputs_prog hl (fun a ha => (hg a ha).1.1) (by omega) (fun f hf' => by have := hf f hf'; omega) (fun a ha => by have := (hg a ha).2; have := nodesL_mem a ha; omega) (by omega)
  obtain ⟨K2, h2⟩ := fields_ref hl (by omega) (fun a ha => (hg a ha).1.2) (by omega)
  refine ⟨?_, fun u xs hs => ?_, ?_⟩
  · rw [hst]
    refine Ev.succ ⟨K2, fun k hk => ?_⟩
    have h2' : Zai k s.fields s.args = some (Zcx (fT s.fields s.args)) := h2 k hk
    show Z1r k _ s b = _
    unfold Z1r
    rw [hop]
    simp only [Int.reduceBEq, cond_true, cond_false]
    rw [if_pos (by first | omega | (simp only [Z9, Z01, bsz, Z0l, Z0f, List.toList_toArray, List.size_toArray, List.length_cons, List.length_nil, List.length_append]; omega)), if_pos (by first | omega | (simp only [Z9, Z01, bsz, Z0l, Z0f, List.toList_toArray, List.size_toArray, List.length_cons, List.length_nil, List.length_append]; omega)), h2']
    simp only [Option.bind_some]
    rw [if_pos (by first | omega | (simp only [Z9, Z01, bsz, Z0l, Z0f, List.toList_toArray, List.size_toArray, List.length_cons, List.length_nil, List.length_append]; omega)), if_pos (by first | omega | (simp only [Z9, Z01, bsz, Z0l, Z0f, List.toList_toArray, List.size_toArray, List.length_cons, List.length_nil, List.length_append]; omega))]
    all_goals (refine congrArg some (Z9u ?_); simp [Z0l, bB])
  · rw [hst] at hs ⊢
    simp only [List.length_append, List.length_cons, List.length_nil] at hs
    refine ⟨true, Ev.succ ⟨K1, fun k hk => ?_⟩⟩
    have h1' : Zci k s.fields s.args = some (Zcx (fT s.fields s.args)) := h1 k hk
    show Z00 k _ u xs b s = _
    unfold Z00
    rw [hop]
    simp only [Int.reduceBEq, cond_true, cond_false]
    rw [if_pos (by first | omega | (simp only [Z9, Z01, bsz, Z0l, Z0f, List.toList_toArray, List.size_toArray, List.length_cons, List.length_nil, List.length_append]; omega)), h1']
    simp only [Option.bind_some]
    rw [if_pos (by first | omega | (simp only [Z9, Z01, bsz, Z0l, Z0f, List.toList_toArray, List.size_toArray, List.length_cons, List.length_nil, List.length_append]; omega)), if_pos (by first | omega | (simp only [Z9, Z01, bsz, Z0l, Z0f, List.toList_toArray, List.size_toArray, List.length_cons, List.length_nil, List.length_append]; omega)), Z55 k (by first | omega | (simp only [Z9, Z01, bsz, Z0l, Z0f, List.toList_toArray, List.size_toArray, List.length_cons, List.length_nil, List.length_append]; omega))]
    simp [Z0l]
  · rw [hst, Zcv]
    simp only [List.length_append, List.length_cons, List.length_nil]
    omega
theorem sg_while {s : St} {b : ByteArray} (P : Parts s b) (hop : s.op = 6) {a : Ex} (ha : s.args = [a]) (hg : Good a) (hn : a.nodes ≤ 600) : SG s b := by
  have hb := P.bsize
  have hbl := Z20 b
  have hal := Z20 (txt a)
  have hgs := hg.2
  have hla : Z3c s.args = a.nodes := by rw [ha]; exact Zcq a
  have at0 : at? s.args 0 = some a := by rw [ha]; rfl
  have hbs := P.body.size
  rw [blank2] at hbs
  have hnn := Zcv s
  have hll := labs_st s
  have hfew := P.few
  obtain ⟨K1, h1⟩ := hg.1.1
  obtain ⟨K2, h2⟩ := one_ref ha hg hn
  obtain ⟨K3, h3⟩ := P.body.ref
  rw [blank2] at h3
  have hst : stT s b.data.toList = b.data.toList ++ ([119, 104, 105, 108, 101, 32] ++ ((txt a).data.toList ++ ([32, 100, 111, 10] ++ (slT s.body (b.data.toList ++ [32, 32]) ++ (b.data.toList ++ [101, 110, 100, 95, 119, 104, 105, 108, 101, 59, 10]))))) := by
    rw [stT_eq, hop, tx_0 ha]; rfl
  refine ⟨?_, fun u xs hs => ?_, ?_⟩
  · rw [hst]
    refine Ev.succ ⟨max K2 K3, fun k hk => ?_⟩
    have h2' : Z1y k s.args = some (txt a) := h2 k (by omega)
    have h3' : (Zo k).ref03_Stmts s.body (b ++ ⟨#[32, 32]⟩) = _ := h3 k (by omega)
    show Z1r k _ s b = _
    unfold Z1r
    rw [hop]
    simp only [Int.reduceBEq, cond_true, cond_false]
    rw [if_pos (by first | omega | (simp only [Z9, Z01, bsz, Z0l, Z0f, List.toList_toArray, List.size_toArray, List.length_cons, List.length_nil, List.length_append]; omega)), h2']
    simp only [Option.bind_some]
    rw [if_pos (by first | omega | (simp only [Z9, Z01, bsz, Z0l, Z0f, List.toList_toArray, List.size_toArray, List.length_cons, List.length_nil, List.length_append]; omega)), if_pos (by first | omega | (simp only [Z9, Z01, bsz, Z0l, Z0f, List.toList_toArray, List.size_toArray, List.length_cons, List.length_nil, List.length_append]; omega)), if_pos (by first | omega | (simp only [Z9, Z01, bsz, Z0l, Z0f, List.toList_toArray, List.size_toArray, List.length_cons, List.length_nil, List.length_append]; omega)), h3']
    simp only [Option.bind_some]
    rw [if_pos (by first | omega | (simp only [Z9, Z01, bsz, Z0l, Z0f, List.toList_toArray, List.size_toArray, List.length_cons, List.length_nil, List.length_append]; omega)), if_pos (by first | omega | (simp only [Z9, Z01, bsz, Z0l, Z0f, List.toList_toArray, List.size_toArray, List.length_cons, List.length_nil, List.length_append]; omega)), if_pos (by first | omega | (simp only [Z9, Z01, bsz, Z0l, Z0f, List.toList_toArray, List.size_toArray, List.length_cons, List.length_nil, List.length_append]; omega))]
    all_goals (refine congrArg some (Z9u ?_); simp [Z0l, bB])
  · rw [hst] at hs ⊢
    simp only [List.length_append, List.length_cons, List.length_nil] at hs
    obtain ⟨u2, K4, h4⟩ := Zep P.body (by omega) true (xs ++ (b.data.toList ++ (([119, 104, 105, 108, 101, 32] ++ ((txt a).data.toList ++ [32, 100, 111])) ++ [10]))) (by simp only [List.length_append, List.length_cons, List.length_nil]; omega)
    have g : Ev (fun k => Z71 k u xs b s) (true, xs ++ (b.data.toList ++ ([119, 104, 105, 108, 101, 32] ++ ((txt a).data.toList ++ ([32, 100, 111, 10] ++ (slT s.body (b.data.toList ++ [32, 32]) ++ (b.data.toList ++ [101, 110, 100, 95, 119, 104, 105, 108, 101, 59, 10])))))), b) := by
      refine Ev.succ ⟨max K1 K4, fun k hk => ?_⟩
      have h1' : Z1t k a = some (txt a) := h1 k (by omega)
      have h4' : (Z3 k).print_printer_text true _ b s.body = _ := h4 k (by omega)
      show Z1o k _ u xs b s = _
      unfold Z1o
      rw [hop]
      simp only [Int.reduceBEq, cond_true, cond_false, at0, Option.bind_some, h1']
      rw [if_pos (by first | omega | (simp only [Z9, Z01, bsz, Z0l, Z0f, List.toList_toArray, List.size_toArray, List.length_cons, List.length_nil, List.length_append]; omega)), if_pos (by first | omega | (simp only [Z9, Z01, bsz, Z0l, Z0f, List.toList_toArray, List.size_toArray, List.length_cons, List.length_nil, List.length_append]; omega)), Z55 k (by first | omega | (simp only [Z9, Z01, bsz, Z0l, Z0f, List.toList_toArray, List.size_toArray, List.length_cons, List.length_nil, List.length_append]; omega))]
      have e : ((⟨#[119, 104, 105, 108, 101, 32]⟩ ++ txt a) ++ ⟨#[32, 100, 111]⟩ : ByteArray).data.toList = [119, 104, 105, 108, 101, 32] ++ ((txt a).data.toList ++ [32, 100, 111]) := by simp [Z0l]
      simp only [Option.bind_some, e, h4']
      rw [Z55 k (by first | omega | (simp only [Z9, Z01, bsz, Z0l, Z0f, List.toList_toArray, List.size_toArray, List.length_cons, List.length_nil, List.length_append]; omega))]
      simp
    obtain ⟨K5, h5⟩ := g
    refine ⟨true, Ev.succ ⟨K5, fun k hk => ?_⟩⟩
    have h5' : (Z3 k).print_printer_loop u xs b s = _ := h5 k hk
    show Z00 k _ u xs b s = _
    unfold Z00
    simp only [St.eta]
    rw [hop]
    simp only [Int.reduceBEq, cond_true, cond_false, h5', Option.bind_some]
  · rw [hst, hnn, hla]
    simp only [List.length_append, List.length_cons, List.length_nil]
    omega
theorem sg_repeat {s : St} {b : ByteArray} (P : Parts s b) (hop : s.op = 7) {a : Ex} (ha : s.args = [a]) (hg : Good a) (hn : a.nodes ≤ 600) : SG s b := by
  have hb := P.bsize
  have hbl := Z20 b
  have hal := Z20 (txt a)
  have hgs := hg.2
  have hla : Z3c s.args = a.nodes := by rw [ha]; exact Zcq a
  have at0 : at? s.args 0 = some a := by rw [ha]; rfl
  have hbs := P.body.size
  rw [blank2] at hbs
  have hnn := Zcv s
  have hll := labs_st s
  have hfew := P.few
  obtain ⟨K1, h1⟩ := hg.1.1
  obtain ⟨K2, h2⟩ := one_ref ha hg hn
  obtain ⟨K3, h3⟩ := P.body.ref
  rw [blank2] at h3
  have hst : stT s b.data.toList = b.data.toList ++ ([114, 101, 112, 101, 97, 116, 10] ++ (slT s.body (b.data.toList ++ [32, 32]) ++ (b.data.toList ++ ([117, 110, 116, 105, 108, 32] ++ ((txt a).data.toList ++ (10 :: (b.data.toList ++ [101, 110, 100, 95, 114, 101, 112, 101, 97, 116, 59, 10]))))))) := by
    rw [stT_eq, hop, tx_0 ha]; rfl
  refine ⟨?_, fun u xs hs => ?_, ?_⟩
  · rw [hst]
    refine Ev.succ ⟨max K2 K3, fun k hk => ?_⟩
    have h2' : Z1y k s.args = some (txt a) := h2 k (by omega)
    have h3' : (Zo k).ref03_Stmts s.body (b ++ ⟨#[32, 32]⟩) = _ := h3 k (by omega)
    show Z1r k _ s b = _
    unfold Z1r
    rw [hop]
    simp only [Int.reduceBEq, cond_true, cond_false]
    rw [if_pos (by first | omega | (simp only [Z9, Z01, bsz, Z0l, Z0f, List.toList_toArray, List.size_toArray, List.length_cons, List.length_nil, List.length_append]; omega)), if_pos (by first | omega | (simp only [Z9, Z01, bsz, Z0l, Z0f, List.toList_toArray, List.size_toArray, List.length_cons, List.length_nil, List.length_append]; omega)), h3']
    simp only [Option.bind_some]
    rw [if_pos (by first | omega | (simp only [Z9, Z01, bsz, Z0l, Z0f, List.toList_toArray, List.size_toArray, List.length_cons, List.length_nil, List.length_append]; omega)), if_pos (by first | omega | (simp only [Z9, Z01, bsz, Z0l, Z0f, List.toList_toArray, List.size_toArray, List.length_cons, List.length_nil, List.length_append]; omega)), if_pos (by first | omega | (simp only [Z9, Z01, bsz, Z0l, Z0f, List.toList_toArray, List.size_toArray, List.length_cons, List.length_nil, List.length_append]; omega)), h2']
    simp only [Option.bind_some]
    rw [if_pos (by first | omega | (simp only [Z9, Z01, bsz, Z0l, Z0f, List.toList_toArray, List.size_toArray, List.length_cons, List.length_nil, List.length_append]; omega)), if_pos (by first | omega | (simp only [Z9, Z01, bsz, Z0l, Z0f, List.toList_toArray, List.size_toArray, List.length_cons, List.length_nil, List.length_append]; omega)), if_pos (by first | omega | (simp only [Z9, Z01, bsz, Z0l, Z0f, List.toList_toArray, List.size_toArray, List.length_cons, List.length_nil, List.length_append]; omega)), if_pos (by first | omega | (simp only [Z9, Z01, bsz, Z0l, Z0f, List.toList_toArray, List.size_toArray, List.length_cons, List.length_nil, List.length_append]; omega))]
    all_goals (refine congrArg some (Z9u ?_); simp [Z0l, bB])
  · rw [hst] at hs ⊢
    simp only [List.length_append, List.length_cons, List.length_nil] at hs
    obtain ⟨u2, K4, h4⟩ := Zep P.body (by omega) true (xs ++ (b.data.toList ++ ([114, 101, 112, 101, 97, 116] ++ [10]))) (by simp only [List.length_append, List.length_cons, List.length_nil]; omega)
    have g : Ev (fun k => Z71 k u xs b s) (true, xs ++ (b.data.toList ++ ([114, 101, 112, 101, 97, 116, 10] ++ (slT s.body (b.data.toList ++ [32, 32]) ++ (b.data.toList ++ ([117, 110, 116, 105, 108, 32] ++ ((txt a).data.toList ++ (10 :: (b.data.toList ++ [101, 110, 100, 95, 114, 101, 112, 101, 97, 116, 59, 10])))))))), b) := by
      refine Ev.succ ⟨max K1 K4, fun k hk => ?_⟩
      have h1' : Z1t k a = some (txt a) := h1 k (by omega)
      have h4' : (Z3 k).print_printer_text true _ b s.body = _ := h4 k (by omega)
      show Z1o k _ u xs b s = _
      unfold Z1o
      rw [hop]
      simp only [Int.reduceBEq, cond_true, cond_false]
      rw [Z55 k (by first | omega | (simp only [Z9, Z01, bsz, Z0l, Z0f, List.toList_toArray, List.size_toArray, List.length_cons, List.length_nil, List.length_append]; omega))]
      simp only [Option.bind_some, h4', at0, h1']
      rw [if_pos (by first | omega | (simp only [Z9, Z01, bsz, Z0l, Z0f, List.toList_toArray, List.size_toArray, List.length_cons, List.length_nil, List.length_append]; omega)), Z55 k (by first | omega | (simp only [Z9, Z01, bsz, Z0l, Z0f, List.toList_toArray, List.size_toArray, List.length_cons, List.length_nil, List.length_append]; omega))]
      simp only [Option.bind_some]
      rw [Z55 k (by first | omega | (simp only [Z9, Z01, bsz, Z0l, Z0f, List.toList_toArray, List.size_toArray, List.length_cons, List.length_nil, List.length_append]; omega))]
      simp [Z0l]
    obtain ⟨K5, h5⟩ := g
    refine ⟨true, Ev.succ ⟨K5, fun k hk => ?_⟩⟩
    have h5' : (Z3 k).print_printer_loop u xs b s = _ := h5 k hk
    show Z00 k _ u xs b s = _
    unfold Z00
    simp only [St.eta]
    rw [hop]
    simp only [Int.reduceBEq, cond_true, cond_false, h5', Option.bind_some]
  · rw [hst, hnn, hla]
    simp only [List.length_append, List.length_cons, List.length_nil]
    omega
end Go.Proofs.YtaknpdhmhifpeaaGreatDoor
