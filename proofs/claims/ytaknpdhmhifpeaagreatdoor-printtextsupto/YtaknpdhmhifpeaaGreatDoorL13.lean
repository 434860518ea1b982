import Derived.Test.YtaknpdhmhifpeaaGreatDoorL12
set_option linter.unusedVariables false
set_option linter.unusedSimpArgs false
namespace Go.Proofs.YtaknpdhmhifpeaaGreatDoor
open Go

/-! ### 69. if, case, for -/
theorem otB_len (s : St) (i t : List UInt8) : (otB s i t).length ≤ i.length + 5 + t.length := by
  unfold otB
  cases s.els
  · exact Nat.zero_le _
  · simp only [cond_true, List.length_append, List.length_cons, List.length_nil]; omega
theorem sg_if {s : St} {b : ByteArray} (P : Parts s b) (hop : s.op = 3) {a : Ex} (ha : s.args = [a]) (hg : Good a) (hn : a.nodes ≤ 600) (hx : ∀ r ∈ s.arms, AI r b) : SG s b := by
  have hb := P.bsize
  have hbl := Z20 b
  have hal := Z20 (txt a)
  have hgs := hg.2
  have hla : Z3c s.args = a.nodes := by rw [ha]; exact Zcq a
  have at0 : at? s.args 0 = some a := by rw [ha]; rfl
  have hbs := P.body.size
  rw [blank2] at hbs
  have hos := P.other.size
  rw [blank2] at hos
  have has := alT_size (c := false) (i := b.data.toList) (fun r hr => ai_size (hx r hr) hb)
  have hot := otB_len s b.data.toList (slT s.other (b.data.toList ++ [32, 32]))
  have hnn := Zcv s
  have hll := labs_st s
  have hfew := P.few
  obtain ⟨K1, h1⟩ := hg.1.1
  obtain ⟨K2, h2⟩ := one_ref ha hg hn
  obtain ⟨K3, h3⟩ := P.body.ref
  rw [blank2] at h3
  have hst : stT s b.data.toList = b.data.toList ++ ([105, 102, 32] ++ ((txt a).data.toList ++ ([32, 116, 104, 101, 110, 10] ++ (slT s.body (b.data.toList ++ [32, 32]) ++ (alT s.arms false b.data.toList ++ (otB s b.data.toList (slT s.other (b.data.toList ++ [32, 32])) ++ (b.data.toList ++ [101, 110, 100, 95, 105, 102, 59, 10]))))))) := by
    rw [stT_eq, hop, tx_0 ha]; rfl
  refine ⟨?_, fun u xs hs => ?_, ?_⟩
  · rw [hst]
    obtain ⟨K4, h4⟩ := arms_if_ref hb hx P.len P.other (by omega) s.arms [] rfl (b.data.toList ++ ([105, 102, 32] ++ ((txt a).data.toList ++ ([32, 116, 104, 101, 110, 10] ++ slT s.body (b.data.toList ++ [32, 32]))))) (by simp only [List.length_append, List.length_cons, List.length_nil]; omega)
    refine Ev.succ ⟨max K2 (max K3 K4), fun k hk => ?_⟩
    have h2' : Z1y k s.args = some (txt a) := h2 k (by omega)
    have h3' : (Zo k).ref03_Stmts s.body (b ++ ⟨#[32, 32]⟩) = _ := h3 k (by omega)
    have h4' := h4 k (by omega)
    show Z1r k _ s b = _
    unfold Z1r
    rw [hop]
    simp only [Int.reduceBEq, cond_true, cond_false]
    rw [if_pos (by first | omega | (simp only [Z9, Z01, bsz, Z0l, Z0f, List.toList_toArray, List.size_toArray, List.length_cons, List.length_nil, List.length_append]; omega)), h2']
    simp only [Option.bind_some]
    rw [if_pos (by first | omega | (simp only [Z9, Z01, bsz, Z0l, Z0f, List.toList_toArray, List.size_toArray, List.length_cons, List.length_nil, List.length_append]; omega)), if_pos (by first | omega | (simp only [Z9, Z01, bsz, Z0l, Z0f, List.toList_toArray, List.size_toArray, List.length_cons, List.length_nil, List.length_append]; omega)), if_pos (by first | omega | (simp only [Z9, Z01, bsz, Z0l, Z0f, List.toList_toArray, List.size_toArray, List.length_cons, List.length_nil, List.length_append]; omega)), h3']
    simp only [Option.bind_some]
    rw [if_pos (by first | omega | (simp only [Z9, Z01, bsz, Z0l, Z0f, List.toList_toArray, List.size_toArray, List.length_cons, List.length_nil, List.length_append]; omega))]
    have e6 : (((b ++ ⟨#[105, 102, 32]⟩) ++ txt a) ++ ⟨#[32, 116, 104, 101, 110, 10]⟩) ++ bB (slT s.body (b.data.toList ++ [32, 32])) = bB (b.data.toList ++ ([105, 102, 32] ++ ((txt a).data.toList ++ ([32, 116, 104, 101, 110, 10] ++ slT s.body (b.data.toList ++ [32, 32]))))) := by
      apply Z9u
      simp [Z0l, bB]
    rw [e6]
    refine Eq.trans h4' ?_
    simp
  · rw [hst] at hs ⊢
    simp only [List.length_append, List.length_cons, List.length_nil] at hs
    obtain ⟨u2, K4, h4⟩ := Zep P.body (by omega) true (xs ++ (b.data.toList ++ (([105, 102, 32] ++ ((txt a).data.toList ++ [32, 116, 104, 101, 110])) ++ [10]))) (by simp only [List.length_append, List.length_cons, List.length_nil]; omega)
    obtain ⟨u3, K5, h5⟩ := arms_if_prog hb hx P.len P.other s.arms [] rfl u2 ((xs ++ (b.data.toList ++ (([105, 102, 32] ++ ((txt a).data.toList ++ [32, 116, 104, 101, 110])) ++ [10]))) ++ slT s.body (b.data.toList ++ [32, 32])) (by simp only [List.length_append, List.length_cons, List.length_nil]; omega)
    refine ⟨u3, Ev.succ ⟨max K1 (max K4 K5), fun k hk => ?_⟩⟩
    have h1' : Z1t k a = some (txt a) := h1 k (by omega)
    have h4' : (Z3 k).print_printer_text true _ b s.body = _ := h4 k (by omega)
    have h5' := h5 k (by omega)
    show Z00 k _ u xs b s = _
    unfold Z00
    rw [hop]
    simp only [Int.reduceBEq, cond_true, cond_false, at0, Option.bind_some, h1']
    rw [if_pos (by first | omega | (simp only [Z9, Z01, bsz, Z0l, Z0f, List.toList_toArray, List.size_toArray, List.length_cons, List.length_nil, List.length_append]; omega)), if_pos (by first | omega | (simp only [Z9, Z01, bsz, Z0l, Z0f, List.toList_toArray, List.size_toArray, List.length_cons, List.length_nil, List.length_append]; omega)), Z55 k (by first | omega | (simp only [Z9, Z01, bsz, Z0l, Z0f, List.toList_toArray, List.size_toArray, List.length_cons, List.length_nil, List.length_append]; omega))]
    have e : ((⟨#[105, 102, 32]⟩ ++ txt a) ++ ⟨#[32, 116, 104, 101, 110]⟩ : ByteArray).data.toList = [105, 102, 32] ++ ((txt a).data.toList ++ [32, 116, 104, 101, 110]) := by simp [Z0l]
    simp only [Option.bind_some, e, h4']
    refine Eq.trans h5' ?_
    simp
  · rw [hst, hnn, hla]
    simp only [List.length_append, List.length_cons, List.length_nil]
    omega
theorem sg_case {s : St} {b : ByteArray} (P : Parts s b) (hop : s.op = 4) {a : Ex} (ha : s.args = [a]) (hg : Good a) (hn : a.nodes ≤ 600) (hx : ∀ r ∈ s.arms, AC r b) (hlab : ∀ r ∈ s.arms, r.labels.length < 2000000) : SG s b := by
  have hb := P.bsize
  have hbl := Z20 b
  have hal := Z20 (txt a)
  have hgs := hg.2
  have hla : Z3c s.args = a.nodes := by rw [ha]; exact Zcq a
  have at0 : at? s.args 0 = some a := by rw [ha]; rfl
  have hos := P.other.size
  rw [blank2] at hos
  have has := alT_size (c := true) (i := b.data.toList) (fun r hr => ac_size (hx r hr) hb)
  have hot := otB_len s b.data.toList (slT s.other (b.data.toList ++ [32, 32]))
  have hnn := Zcv s
  have hll := labs_st s
  have hfew := P.few
  obtain ⟨K1, h1⟩ := hg.1.1
  obtain ⟨K2, h2⟩ := one_ref ha hg hn
  have hst : stT s b.data.toList = b.data.toList ++ ([99, 97, 115, 101, 32] ++ ((txt a).data.toList ++ ([32, 111, 102, 10] ++ (alT s.arms true b.data.toList ++ (otB s b.data.toList (slT s.other (b.data.toList ++ [32, 32])) ++ (b.data.toList ++ [101, 110, 100, 95, 99, 97, 115, 101, 59, 10])))))) := by
    rw [stT_eq, hop, tx_0 ha]; rfl
  refine ⟨?_, fun u xs hs => ?_, ?_⟩
  · rw [hst]
    obtain ⟨K4, h4⟩ := arms_case_ref hb hx hlab P.len P.other (by omega) s.arms [] rfl (b.data.toList ++ ([99, 97, 115, 101, 32] ++ ((txt a).data.toList ++ [32, 111, 102, 10]))) (by simp only [List.length_append, List.length_cons, List.length_nil]; omega)
    refine Ev.succ ⟨max K2 K4, fun k hk => ?_⟩
    have h2' : Z1y k s.args = some (txt a) := h2 k (by omega)
    have h4' := h4 k (by omega)
    show Z1r k _ s b = _
    unfold Z1r
    rw [hop]
    simp only [Int.reduceBEq, cond_true, cond_false]
    rw [if_pos (by first | omega | (simp only [Z9, Z01, bsz, Z0l, Z0f, List.toList_toArray, List.size_toArray, List.length_cons, List.length_nil, List.length_append]; omega)), h2']
    simp only [Option.bind_some]
    rw [if_pos (by first | omega | (simp only [Z9, Z01, bsz, Z0l, Z0f, List.toList_toArray, List.size_toArray, List.length_cons, List.length_nil, List.length_append]; omega)), if_pos (by first | omega | (simp only [Z9, Z01, bsz, Z0l, Z0f, List.toList_toArray, List.size_toArray, List.length_cons, List.length_nil, List.length_append]; omega))]
    have e6 : ((b ++ ⟨#[99, 97, 115, 101, 32]⟩) ++ txt a) ++ ⟨#[32, 111, 102, 10]⟩ = bB (b.data.toList ++ ([99, 97, 115, 101, 32] ++ ((txt a).data.toList ++ [32, 111, 102, 10]))) := by
      apply Z9u
      simp [Z0l, bB]
    rw [e6]
    refine Eq.trans h4' ?_
    simp
  · rw [hst] at hs ⊢
    simp only [List.length_append, List.length_cons, List.length_nil] at hs
    obtain ⟨u2, K4, h4⟩ := arms_case_prog s.arms hb hx P.len hlab s.arms s.arms [] rfl true (xs ++ (b.data.toList ++ (([99, 97, 115, 101, 32] ++ ((txt a).data.toList ++ [32, 111, 102])) ++ [10]))) (by simp only [List.length_append, List.length_cons, List.length_nil]; omega)
    have g1 : Ev (fun k => Zcl k true (xs ++ (b.data.toList ++ (([99, 97, 115, 101, 32] ++ ((txt a).data.toList ++ [32, 111, 102])) ++ [10]))) b s.op s.name s.index s.fields s.args s.n s.body s.arms s.other s.els) (u2, (xs ++ (b.data.toList ++ (([99, 97, 115, 101, 32] ++ ((txt a).data.toList ++ [32, 111, 102])) ++ [10]))) ++ alT s.arms true b.data.toList, b) := by
      refine Ev.succ ⟨K4 + 1, fun k hk => ?_⟩
      obtain ⟨j, rfl⟩ : ∃ j, k = j + 1 := ⟨k - 1, by omega⟩
      have h4' := h4 j (by omega)
      have h6 : (Z3 (j + 1)).print_printer_stmt_1 s.op s.name s.index s.fields s.args s.n s.body s.arms s.other s.els true (xs ++ (b.data.toList ++ (([99, 97, 115, 101, 32] ++ ((txt a).data.toList ++ [32, 111, 102])) ++ [10]))) (b ++ ⟨#[32, 32]⟩) = _ := h4'
      show Z5g (j + 1) _ true _ b s.op s.name s.index s.fields s.args s.n s.body s.arms s.other s.els = _
      unfold Z5g
      rw [if_pos (by first | omega | (simp only [Z9, Z01, bsz, Z0l, Z0f, List.toList_toArray, List.size_toArray, List.length_cons, List.length_nil, List.length_append]; omega)), h6]; rfl
    obtain ⟨K5, h5⟩ := g1
    obtain ⟨u3, K6, h6⟩ := other_prog P.other (by omega) u2 ((xs ++ (b.data.toList ++ (([99, 97, 115, 101, 32] ++ ((txt a).data.toList ++ [32, 111, 102])) ++ [10]))) ++ alT s.arms true b.data.toList) (by simp only [List.length_append, List.length_cons, List.length_nil]; omega)
    refine ⟨true, Ev.succ ⟨max K1 (max K5 K6), fun k hk => ?_⟩⟩
    have h1' : Z1t k a = some (txt a) := h1 k (by omega)
    have h5' : (Z3 k).print_lines_inside true (xs ++ (b.data.toList ++ (([99, 97, 115, 101, 32] ++ ((txt a).data.toList ++ [32, 111, 102])) ++ [10]))) b s.op s.name s.index s.fields s.args s.n s.body s.arms s.other s.els = _ := h5 k (by omega)
    have h6' : (Z3 k).print_printer_other u2 _ b s = _ := h6 k (by omega)
    show Z00 k _ u xs b s = _
    unfold Z00
    simp only [St.eta]
    have o1 : (s.op == 1) = false := by rw [hop]; rfl
    have o2 : (s.op == 2) = false := by rw [hop]; rfl
    have o8 : (s.op == 8) = false := by rw [hop]; rfl
    have o9 : (s.op == 9) = false := by rw [hop]; rfl
    have o3 : (s.op == 3) = false := by rw [hop]; rfl
    have o4 : (s.op == 4) = true := by rw [hop]; rfl
    simp only [o1, o2, o8, o9, o3, o4, cond_true, cond_false, at0, Option.bind_some, h1']
    rw [if_pos (by first | omega | (simp only [Z9, Z01, bsz, Z0l, Z0f, List.toList_toArray, List.size_toArray, List.length_cons, List.length_nil, List.length_append]; omega)), if_pos (by first | omega | (simp only [Z9, Z01, bsz, Z0l, Z0f, List.toList_toArray, List.size_toArray, List.length_cons, List.length_nil, List.length_append]; omega)), Z55 k (by first | omega | (simp only [Z9, Z01, bsz, Z0l, Z0f, List.toList_toArray, List.size_toArray, List.length_cons, List.length_nil, List.length_append]; omega))]
    have e : ((⟨#[99, 97, 115, 101, 32]⟩ ++ txt a) ++ ⟨#[32, 111, 102]⟩ : ByteArray).data.toList = [99, 97, 115, 101, 32] ++ ((txt a).data.toList ++ [32, 111, 102]) := by simp [Z0l]
    simp only [Option.bind_some, e, h5', h6']
    rw [Z55 k (by first | omega | (simp only [Z9, Z01, bsz, Z0l, Z0f, List.toList_toArray, List.size_toArray, List.length_cons, List.length_nil, List.length_append]; omega))]
    simp
  · rw [hst, hnn, hla]
    simp only [List.length_append, List.length_cons, List.length_nil]
    omega
set_option maxHeartbeats 4000000 in
theorem sg_for {s : St} {b : ByteArray} (P : Parts s b) (hop : s.op = 5) (hnm : s.name.size ≤ 12) (hnr : -9223372036854775808 ≤ s.n ∧ s.n ≤ 9223372036854775807) {a c : Ex} (ha : s.args = [a, c]) (hg : Good a) (hc : Good c) (hN : a.nodes + c.nodes ≤ 600) : SG s b := by
  have hb := P.bsize
  have hbl := Z20 b
  have hnl := Z20 s.name
  have hal := Z20 (txt a)
  have hcl := Z20 (txt c)
  have hil := Z20 (Zaq s.n)
  have his := itoaB_size s.n
  have hgs := hg.2
  have hcs := hc.2
  have hla : Z3c s.args = a.nodes + c.nodes := by rw [ha]; simp [Z3c]
  have at0 : at? s.args 0 = some a := by rw [ha]; rfl
  have at1 : at? s.args 1 = some c := by rw [ha]; rfl
  have hbs := P.body.size
  rw [blank2] at hbs
  have hnn := Zcv s
  have hll := labs_st s
  have hfew := P.few
  obtain ⟨K1, h1⟩ := hg.1.1
  obtain ⟨K2, h2⟩ := hg.1.2
  obtain ⟨K3, h3⟩ := hc.1.1
  obtain ⟨K4, h4⟩ := hc.1.2
  obtain ⟨K5, h5⟩ := P.body.ref
  rw [blank2] at h5
  obtain ⟨K6, h6⟩ := digits_ev hnr.1 hnr.2
  have hst : stT s b.data.toList = b.data.toList ++ ([102, 111, 114, 32] ++ (s.name.data.toList ++ ([32, 58, 61, 32] ++ ((txt a).data.toList ++ ([32, 116, 111, 32] ++ ((txt c).data.toList ++ ((bif s.n != 1 then [32, 98, 121, 32] ++ (Zaq s.n).data.toList else []) ++ ([32, 100, 111, 10] ++ (slT s.body (b.data.toList ++ [32, 32]) ++ (b.data.toList ++ [101, 110, 100, 95, 102, 111, 114, 59, 10])))))))))) := by
    rw [stT_eq, hop, tx_0 ha, tx_1 ha]; rfl
  refine ⟨?_, fun u xs hs => ?_, ?_⟩
  · rw [hst]
    refine Ev.succ ⟨max K2 (max K4 (max K5 K6)), fun k hk => ?_⟩
    have h2' : Z3g k a = some (txt a) := h2 k (by omega)
    have h4' : Z3g k c = some (txt c) := h4 k (by omega)
    have h5' : (Zo k).ref03_Stmts s.body (b ++ ⟨#[32, 32]⟩) = _ := h5 k (by omega)
    have h6' : Z3n k s.n = some (Zaq s.n) := h6 k (by omega)
    show Z1r k _ s b = _
    unfold Z1r Zdb
    rw [hop]
    simp only [Int.reduceBEq, cond_true, cond_false]
    rw [if_pos (by first | omega | (simp only [Z9, Z01, bsz, Z0l, Z0f, List.toList_toArray, List.size_toArray, List.length_cons, List.length_nil, List.length_append]; omega)), if_pos (by first | omega | (simp only [Z9, Z01, bsz, Z0l, Z0f, List.toList_toArray, List.size_toArray, List.length_cons, List.length_nil, List.length_append]; omega)), if_pos (by first | omega | (simp only [Z9, Z01, bsz, Z0l, Z0f, List.toList_toArray, List.size_toArray, List.length_cons, List.length_nil, List.length_append]; omega)), at0]
    simp only [Option.bind_some, h2']
    rw [if_pos (by first | omega | (simp only [Z9, Z01, bsz, Z0l, Z0f, List.toList_toArray, List.size_toArray, List.length_cons, List.length_nil, List.length_append]; omega)), if_pos (by first | omega | (simp only [Z9, Z01, bsz, Z0l, Z0f, List.toList_toArray, List.size_toArray, List.length_cons, List.length_nil, List.length_append]; omega)), at1]
    simp only [Option.bind_some, h4']
    rw [if_pos (by first | omega | (simp only [Z9, Z01, bsz, Z0l, Z0f, List.toList_toArray, List.size_toArray, List.length_cons, List.length_nil, List.length_append]; omega))]
    cases hn1 : (s.n != 1) with
    | true =>
      simp only [cond_true]
      rw [if_pos (by first | omega | (simp only [Z9, Z01, bsz, Z0l, Z0f, List.toList_toArray, List.size_toArray, List.length_cons, List.length_nil, List.length_append]; omega)), h6']
      simp only [Option.bind_some]
      rw [if_pos (by first | omega | (simp only [Z9, Z01, bsz, Z0l, Z0f, List.toList_toArray, List.size_toArray, List.length_cons, List.length_nil, List.length_append]; omega)), if_pos (by first | omega | (simp only [Z9, Z01, bsz, Z0l, Z0f, List.toList_toArray, List.size_toArray, List.length_cons, List.length_nil, List.length_append]; omega)), if_pos (by first | omega | (simp only [Z9, Z01, bsz, Z0l, Z0f, List.toList_toArray, List.size_toArray, List.length_cons, List.length_nil, List.length_append]; omega)), h5']
      simp only [Option.bind_some]
      rw [if_pos (by first | omega | (simp only [Z9, Z01, bsz, Z0l, Z0f, List.toList_toArray, List.size_toArray, List.length_cons, List.length_nil, List.length_append]; omega)), if_pos (by first | omega | (simp only [Z9, Z01, bsz, Z0l, Z0f, List.toList_toArray, List.size_toArray, List.length_cons, List.length_nil, List.length_append]; omega)), if_pos (by first | omega | (simp only [Z9, Z01, bsz, Z0l, Z0f, List.toList_toArray, List.size_toArray, List.length_cons, List.length_nil, List.length_append]; omega))]
      all_goals (refine congrArg some (Z9u ?_); simp [Z0l, bB])
    | false =>
      simp only [cond_false]
      rw [if_pos (by first | omega | (simp only [Z9, Z01, bsz, Z0l, Z0f, List.toList_toArray, List.size_toArray, List.length_cons, List.length_nil, List.length_append]; omega)), if_pos (by first | omega | (simp only [Z9, Z01, bsz, Z0l, Z0f, List.toList_toArray, List.size_toArray, List.length_cons, List.length_nil, List.length_append]; omega)), h5']
      simp only [Option.bind_some]
      rw [if_pos (by first | omega | (simp only [Z9, Z01, bsz, Z0l, Z0f, List.toList_toArray, List.size_toArray, List.length_cons, List.length_nil, List.length_append]; omega)), if_pos (by first | omega | (simp only [Z9, Z01, bsz, Z0l, Z0f, List.toList_toArray, List.size_toArray, List.length_cons, List.length_nil, List.length_append]; omega)), if_pos (by first | omega | (simp only [Z9, Z01, bsz, Z0l, Z0f, List.toList_toArray, List.size_toArray, List.length_cons, List.length_nil, List.length_append]; omega))]
      all_goals (refine congrArg some (Z9u ?_); simp [Z0l, bB])
  · rw [hst] at hs ⊢
    simp only [List.length_append, List.length_cons, List.length_nil] at hs
    have go : ∀ (by1 : ByteArray), by1.size ≤ 30 → xs.length + b.data.toList.length + s.name.data.toList.length + (slT s.body (b.data.toList ++ [32, 32])).length + (txt a).data.toList.length + (txt c).data.toList.length + by1.data.toList.length < 900000000 - 20 →
        ∃ K, ∀ k, K ≤ k → Z53 k (Z3 k) u b s by1 xs = some (true, xs ++ (b.data.toList ++ ([102, 111, 114, 32] ++ (s.name.data.toList ++ ([32, 58, 61, 32] ++ ((txt a).data.toList ++ ([32, 116, 111, 32] ++ ((txt c).data.toList ++ (by1.data.toList ++ ([32, 100, 111, 10] ++ (slT s.body (b.data.toList ++ [32, 32]) ++ (b.data.toList ++ [101, 110, 100, 95, 102, 111, 114, 59, 10]))))))))))), b) := by
      intro by1 hby hlen
      have hbyl := Z20 by1
      obtain ⟨u2, K7, h7⟩ := Zep P.body (by omega) true (xs ++ (b.data.toList ++ (([102, 111, 114, 32] ++ (s.name.data.toList ++ ([32, 58, 61, 32] ++ ((txt a).data.toList ++ ([32, 116, 111, 32] ++ ((txt c).data.toList ++ (by1.data.toList ++ [32, 100, 111]))))))) ++ [10]))) (by simp only [List.length_append, List.length_cons, List.length_nil]; omega)
      refine ⟨max K1 (max K3 K7), fun k hk => ?_⟩
      have h1' : Z1t k a = some (txt a) := h1 k (by omega)
      have h3' : Z1t k c = some (txt c) := h3 k (by omega)
      have h7' : (Z3 k).print_printer_text true _ b s.body = _ := h7 k (by omega)
      unfold Z53
      rw [if_pos (by first | omega | (simp only [Z9, Z01, bsz, Z0l, Z0f, List.toList_toArray, List.size_toArray, List.length_cons, List.length_nil, List.length_append]; omega)), if_pos (by first | omega | (simp only [Z9, Z01, bsz, Z0l, Z0f, List.toList_toArray, List.size_toArray, List.length_cons, List.length_nil, List.length_append]; omega)), at0]
      simp only [Option.bind_some, h1']
      rw [if_pos (by first | omega | (simp only [Z9, Z01, bsz, Z0l, Z0f, List.toList_toArray, List.size_toArray, List.length_cons, List.length_nil, List.length_append]; omega)), if_pos (by first | omega | (simp only [Z9, Z01, bsz, Z0l, Z0f, List.toList_toArray, List.size_toArray, List.length_cons, List.length_nil, List.length_append]; omega)), at1]
      simp only [Option.bind_some, h3']
      rw [if_pos (by first | omega | (simp only [Z9, Z01, bsz, Z0l, Z0f, List.toList_toArray, List.size_toArray, List.length_cons, List.length_nil, List.length_append]; omega)), if_pos (by first | omega | (simp only [Z9, Z01, bsz, Z0l, Z0f, List.toList_toArray, List.size_toArray, List.length_cons, List.length_nil, List.length_append]; omega)), if_pos (by first | omega | (simp only [Z9, Z01, bsz, Z0l, Z0f, List.toList_toArray, List.size_toArray, List.length_cons, List.length_nil, List.length_append]; omega)), Z55 k (by first | omega | (simp only [Z9, Z01, bsz, Z0l, Z0f, List.toList_toArray, List.size_toArray, List.length_cons, List.length_nil, List.length_append]; omega))]
      have e : (((((((⟨#[102, 111, 114, 32]⟩ ++ s.name) ++ ⟨#[32, 58, 61, 32]⟩) ++ txt a) ++ ⟨#[32, 116, 111, 32]⟩) ++ txt c) ++ by1) ++ ⟨#[32, 100, 111]⟩ : ByteArray).data.toList = [102, 111, 114, 32] ++ (s.name.data.toList ++ ([32, 58, 61, 32] ++ ((txt a).data.toList ++ ([32, 116, 111, 32] ++ ((txt c).data.toList ++ (by1.data.toList ++ [32, 100, 111])))))) := by simp [Z0l]
      simp only [Option.bind_some, e, h7']
      rw [Z55 k (by first | omega | (simp only [Z9, Z01, bsz, Z0l, Z0f, List.toList_toArray, List.size_toArray, List.length_cons, List.length_nil, List.length_append]; omega))]
      simp
    have g : Ev (fun k => Z71 k u xs b s) (true, xs ++ (b.data.toList ++ ([102, 111, 114, 32] ++ (s.name.data.toList ++ ([32, 58, 61, 32] ++ ((txt a).data.toList ++ ([32, 116, 111, 32] ++ ((txt c).data.toList ++ ((bif s.n != 1 then [32, 98, 121, 32] ++ (Zaq s.n).data.toList else []) ++ ([32, 100, 111, 10] ++ (slT s.body (b.data.toList ++ [32, 32]) ++ (b.data.toList ++ [101, 110, 100, 95, 102, 111, 114, 59, 10]))))))))))), b) := by
      cases hn1 : (s.n != 1) with
      | true =>
        rw [hn1] at hs
        simp only [cond_true, List.length_append, List.length_cons, List.length_nil] at hs
        obtain ⟨K7, h7⟩ := go (⟨#[32, 98, 121, 32]⟩ ++ Zaq s.n) (by first | omega | (simp only [Z9, Z01, bsz, Z0l, Z0f, List.toList_toArray, List.size_toArray, List.length_cons, List.length_nil, List.length_append]; omega)) (by first | omega | (simp only [Z9, Z01, bsz, Z0l, Z0f, List.toList_toArray, List.size_toArray, List.length_cons, List.length_nil, List.length_append]; omega))
        refine Ev.succ ⟨K7, fun k hk => ?_⟩
        show Z1o k _ u xs b s = _
        unfold Z1o
        rw [hop, hn1, itoa_ok k hnr.1 hnr.2]
        simp only [Int.reduceBEq, cond_true, cond_false, Option.bind_some]
        rw [if_pos (by first | omega | (simp only [Z9, Z01, bsz, Z0l, Z0f, List.toList_toArray, List.size_toArray, List.length_cons, List.length_nil, List.length_append]; omega)), h7 k hk]
        simp [Z0l]
      | false =>
        rw [hn1] at hs
        simp only [cond_false, List.length_append, List.length_cons, List.length_nil] at hs
        obtain ⟨K7, h7⟩ := go ⟨#[]⟩ (by decide) (by simp only [Z0f, List.toList_toArray, List.length_nil]; omega)
        refine Ev.succ ⟨K7, fun k hk => ?_⟩
        show Z1o k _ u xs b s = _
        unfold Z1o
        rw [hop, hn1]
        simp only [Int.reduceBEq, cond_true, cond_false]
        rw [h7 k hk]
        all_goals simp
    obtain ⟨K8, h8⟩ := g
    refine ⟨true, Ev.succ ⟨K8, fun k hk => ?_⟩⟩
    have h8' : (Z3 k).print_printer_loop u xs b s = _ := h8 k hk
    show Z00 k _ u xs b s = _
    unfold Z00
    simp only [St.eta]
    rw [hop]
    simp only [Int.reduceBEq, cond_true, cond_false, h8', Option.bind_some]
  · rw [hst, hnn, hla]
    simp only [List.length_append, List.length_cons, List.length_nil]
    have hby : (bif s.n != 1 then [32, 98, 121, 32] ++ (Zaq s.n).data.toList else []).length ≤ 30 := by
      cases (s.n != 1)
      · exact Nat.zero_le _
      · simp only [cond_true, List.length_append, List.length_cons, List.length_nil]; omega
    omega
end Go.Proofs.YtaknpdhmhifpeaaGreatDoor
