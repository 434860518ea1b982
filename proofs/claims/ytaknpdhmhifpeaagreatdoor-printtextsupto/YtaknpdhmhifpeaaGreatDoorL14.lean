import Derived.Test.YtaknpdhmhifpeaaGreatDoorL13
set_option linter.unusedVariables false
set_option linter.unusedSimpArgs false
namespace Go.Proofs.YtaknpdhmhifpeaaGreatDoor
open Go

/-! ### 70. PrintTexts: the plain law -/
theorem stmt_facts {s : St} (h : headS s = true) :
    (s.op = 1 ∧ Zan s.name = true ∧ (∃ a, s.args = [a]) ∧ (s.index = [] ∨ ∃ c, s.index = [c])) ∨ (s.op = 2 ∧ Zan s.name = true ∧ s.fields.length = s.args.length ∧ s.fields.all Zan = true) ∨ (s.op = 3 ∧ ∃ a, s.args = [a]) ∨ (s.op = 4 ∧ ∃ a, s.args = [a]) ∨
    (s.op = 5 ∧ Zan s.name = true ∧ ∃ a c, s.args = [a, c]) ∨ (s.op = 6 ∧ ∃ a, s.args = [a]) ∨ (s.op = 7 ∧ ∃ a, s.args = [a]) ∨ s.op = 8 ∨ s.op = 9 := by
  have l1 : ((s.args.length : Int) == 1) = true → ∃ a, s.args = [a] := fun h => List.length_eq_one_iff.1 (by have := eq_of_beq h; omega)
  have l2 : ((s.args.length : Int) == 2) = true → ∃ a c, s.args = [a, c] := fun h => by
    have hl : s.args.length = 2 := by have := eq_of_beq h; omega
    match hx : s.args, hl with
    | [a, b], _ => exact ⟨a, b, rfl⟩
  have li : decide ((s.index.length : Int) ≤ 1) = true → s.index = [] ∨ ∃ c, s.index = [c] := fun h => by
    have hl := of_decide_eq_true h
    match hx : s.index, hl with
    | [], _ => exact .inl rfl
    | [c], _ => exact .inr ⟨c, rfl⟩
    | _ :: _ :: _, hl => simp at hl; omega
  unfold headS st4 nmd at h
  by_cases o1 : s.op = 1
  · rw [Zfe o1] at h
    simp only [cond_true, cond_false, Bool.and_eq_true] at h
    exact .inl ⟨o1, h.2.1.2, l1 h.2.1.1, li h.1⟩
  rw [Zbp o1] at h
  by_cases o2 : s.op = 2
  · rw [Zfe o2] at h
    simp only [cond_true, cond_false, Bool.and_eq_true] at h
    exact .inr (.inl ⟨o2, h.2.1.2, by have := eq_of_beq h.1.1; omega, h.1.2⟩)
  rw [Zbp o2] at h
  by_cases o3 : s.op = 3
  · rw [Zfe o3] at h
    simp only [cond_true, cond_false, Bool.and_eq_true] at h
    exact .inr (.inr (.inl ⟨o3, l1 h.1.1⟩))
  rw [Zbp o3] at h
  by_cases o4 : s.op = 4
  · rw [Zfe o4] at h
    simp only [cond_true, cond_false, Bool.and_eq_true] at h
    exact .inr (.inr (.inr (.inl ⟨o4, l1 h.1.1⟩)))
  rw [Zbp o4] at h
  by_cases o5 : s.op = 5
  · rw [Zfe o5] at h
    simp only [cond_true, cond_false, Bool.and_eq_true] at h
    exact .inr (.inr (.inr (.inr (.inl ⟨o5, h.2.1.2, l2 h.2.1.1⟩))))
  rw [Zbp o5] at h
  by_cases o6 : s.op = 6
  · rw [Zfe o6] at h
    simp only [cond_true, cond_false, Bool.and_eq_true, Bool.true_or] at h
    exact .inr (.inr (.inr (.inr (.inr (.inl ⟨o6, l1 h.1.1⟩)))))
  rw [Zbp o6] at h
  by_cases o7 : s.op = 7
  · rw [Zfe o7] at h
    simp only [cond_true, cond_false, Bool.and_eq_true, Bool.or_true] at h
    exact .inr (.inr (.inr (.inr (.inr (.inr (.inl ⟨o7, l1 h.1.1⟩))))))
  rw [Zbp o7] at h
  simp only [cond_false, Bool.or_false, Bool.and_eq_true, Bool.or_eq_true, beq_iff_eq] at h
  rcases h.1 with o8 | o9
  · exact .inr (.inr (.inr (.inr (.inr (.inr (.inr (.inl o8)))))))
  · exact .inr (.inr (.inr (.inr (.inr (.inr (.inr (.inr o9)))))))
theorem nodesSL_mem {l : List St} : ∀ s ∈ l, s.nodes ≤ Z3e l := by
  induction l with
  | nil => intro a ha; cases ha
  | cons x l ih =>
    intro a ha
    rw [Z3e]
    rcases List.mem_cons.1 ha with rfl | ha
    · omega
    · have := ih a ha; omega
theorem labsSL_mem {l : List St} : ∀ s ∈ l, s.labs ≤ Zc6 l := by
  induction l with
  | nil => intro a ha; cases ha
  | cons x l ih =>
    intro a ha
    rw [Zc6]
    rcases List.mem_cons.1 ha with rfl | ha
    · omega
    · have := ih a ha; omega
theorem nodesAL_mem {l : List Ar} : ∀ s ∈ l, s.nodes ≤ Z9p l := by
  induction l with
  | nil => intro a ha; cases ha
  | cons x l ih =>
    intro a ha
    rw [Z9p]
    rcases List.mem_cons.1 ha with rfl | ha
    · omega
    · have := ih a ha; omega
theorem labsAL_mem {l : List Ar} : ∀ s ∈ l, s.labs ≤ labsAL l := by
  induction l with
  | nil => intro a ha; cases ha
  | cons x l ih =>
    intro a ha
    rw [labsAL]
    rcases List.mem_cons.1 ha with rfl | ha
    · omega
    · have := ih a ha; omega
theorem Zdz : ∀ l : List St, l.length ≤ Z3e l
  | [] => Nat.le_refl _
  | x :: l => by rw [Z3e, List.length_cons]; have := Zdz l; rw [Zcv]; omega
theorem nodesAL_len : ∀ l : List Ar, l.length ≤ Z9p l
  | [] => Nat.le_refl _
  | x :: l => by rw [Z9p, List.length_cons]; have := nodesAL_len l; rw [nodes_ar]; omega
theorem WDSL_mem {l : List St} {d : Int} (h : WDSL l d) : ∀ a ∈ l, WDS a d := by
  induction l with
  | nil => intro a ha; cases ha
  | cons x l ih =>
    rw [WDSL] at h
    intro a ha
    rcases List.mem_cons.1 ha with rfl | ha
    · exact h.1
    · exact ih h.2 a ha
theorem WDAL_mem {l : List Ar} {op d : Int} (h : WDAL l op d) : ∀ a ∈ l, WDA a op d := by
  induction l with
  | nil => intro a ha; cases ha
  | cons x l ih =>
    rw [WDAL] at h
    intro a ha
    rcases List.mem_cons.1 ha with rfl | ha
    · exact h.1
    · exact ih h.2 a ha
theorem goodL {l : List Ex} {d : Int} (h : WDL l d) (hN : Z3c l ≤ 500) : ∀ a ∈ l, Good a ∧ a.nodes ≤ 600 := fun a ha => by
  have := nodesL_mem a ha
  exact ⟨good a (WD_WF a d (WDL_mem h a ha)) (by omega), by omega⟩
theorem stmt_good (s : St) : s.fits → ∀ (d : Int) (b : ByteArray), WDS s d → 0 ≤ d → (b.size : Int) ≤ 4 * d → 400 * s.nodes + 24 * s.labs < 40000000 → s.nodes ≤ 500 → SG s b := by
  induction s using St.ind (Q := fun a => a.fits → ∀ (op d : Int) (b : ByteArray), WDA a op d → 1 ≤ d → (b.size : Int) ≤ 4 * d - 4 → 400 * a.nodes + 24 * a.labs < 40000000 → a.nodes ≤ 500 → (op = 3 → AI a b) ∧ (op = 4 → AC a b)) with
  | hs op name index fields args n body arms other els i1 i2 i3 =>
    intro hf d b hw hd hb hfew hN
    rw [St.fits] at hf
    obtain ⟨f0, f1, f2, f3, f4, f5, f6, f7⟩ := hf
    rw [WDS] at hw
    obtain ⟨w1, w2, w3, w4, w5, w6, w7⟩ := hw
    have hnn : (St.mk op name index fields args n body arms other els).nodes = Z9p arms + (Z3c index + (Z3c args + (Z3e body + Z3e other))) + 1 := by rw [St.nodes]
    have hll : (St.mk op name index fields args n body arms other els).labs = Zc6 body + labsAL arms + Zc6 other := by rw [St.labs]
    rw [hnn, hll] at hfew
    rw [hnn] at hN
    have b2 : ((b ++ ⟨#[32, 32]⟩ : ByteArray).size : Int) = b.size + 2 := by
      have : (b ++ ⟨#[32, 32]⟩ : ByteArray).size = b.size + 2 := by simp only [Z9, bsz, List.size_toArray, List.length_cons, List.length_nil]
      omega
    have hbody : SL body (b ++ ⟨#[32, 32]⟩) := sl_of (fun s hs => by
      have q1 := nodesSL_mem s hs
      have q2 := labsSL_mem s hs
      exact i1 s hs (Z3j f5.2 s hs) (d + 1) _ (WDSL_mem w6 s hs) (by omega) (by omega) (by omega) (by omega)) (by omega) (by have := Zdz body; omega)
    have hother : SL other (b ++ ⟨#[32, 32]⟩) := sl_of (fun s hs => by
      have q1 := nodesSL_mem s hs
      have q2 := labsSL_mem s hs
      exact i3 s hs (Z3j f7.2 s hs) (d + 1) _ (WDSL_mem w7 s hs) (by omega) (by omega) (by omega) (by omega)) (by omega) (by have := Zdz other; omega)
    have harms : ∀ a ∈ arms, (op = 3 → AI a b) ∧ (op = 4 → AC a b) := fun a ha => by
      have q1 := nodesAL_mem a ha
      have q2 := labsAL_mem a ha
      exact i2 a ha (fitsAL_mem f6.2 a ha) op (d + 1) b (WDAL_mem w3 a ha) (by omega) (by omega) (by omega) (by omega)
    have P : Parts (.mk op name index fields args n body arms other els) b := ⟨by omega, hbody, hother, by rw [hnn, hll]; omega, by have := nodesAL_len arms; show arms.length < _; omega⟩
    have ga := goodL w5 (by omega)
    have gi := goodL w4 (by omega)
    rcases stmt_facts w1 with ⟨o, q1, ⟨a, qa⟩, qi⟩ | ⟨o, q1, q2, q3⟩ | ⟨o, a, qa⟩ | ⟨o, a, qa⟩ | ⟨o, q1, a, c, qa⟩ | ⟨o, a, qa⟩ | ⟨o, a, qa⟩ | o | o
    · have qa' : args = [a] := qa
      obtain ⟨g1, g2⟩ := ga a (by rw [qa']; simp)
      refine sg_set P o (Za7 q1) qa g1 g2 ?_
      rcases qi with qi | ⟨c, qi⟩
      · exact .inl qi
      · have qi' : index = [c] := qi
        obtain ⟨g3, g4⟩ := gi c (by rw [qi']; simp)
        exact .inr ⟨c, qi, g3, g4⟩
    · refine sg_call P o (Za7 q1) q2 (fun f hf => Za7 ?_) (fun a ha => (ga a ha).1) (by show Z3c args ≤ _; omega)
      exact List.all_eq_true.1 q3 f hf
    · have qa' : args = [a] := qa
      obtain ⟨g1, g2⟩ := ga a (by rw [qa']; simp)
      exact sg_if P o qa g1 g2 (fun r hr => (harms r hr).1 o)
    · have qa' : args = [a] := qa
      obtain ⟨g1, g2⟩ := ga a (by rw [qa']; simp)
      refine sg_case P o qa g1 g2 (fun r hr => (harms r hr).2 o) (fun r hr => ?_)
      have q2 := labsAL_mem r hr
      rw [labs_ar] at q2
      have q3 : labsAL arms < 2000000 := by omega
      have q4 : r.labels.length + Zc6 r.body ≤ labsAL arms := q2
      omega
    · have qa' : args = [a, c] := qa
      obtain ⟨g1, g2⟩ := ga a (by rw [qa']; simp)
      obtain ⟨g3, g4⟩ := ga c (by rw [qa']; simp)
      have hac : Z3c args = a.nodes + c.nodes := by rw [qa']; simp [Z3c]
      exact sg_for P o (Za7 q1) f0 qa g1 g3 (by omega)
    · have qa' : args = [a] := qa
      obtain ⟨g1, g2⟩ := ga a (by rw [qa']; simp)
      exact sg_while P o qa g1 g2
    · have qa' : args = [a] := qa
      obtain ⟨g1, g2⟩ := ga a (by rw [qa']; simp)
      exact sg_repeat P o qa g1 g2
    · exact sg_exit P o
    · exact sg_return P o
  | ha cond labels body ih hf op d b hw hd hb hfew hN =>
    rw [Ar.fits] at hf
    rw [WDA] at hw
    obtain ⟨w1, w2, w3, w4⟩ := hw
    have hnn : (Ar.mk cond labels body).nodes = Z3c cond + Z3e body + 1 := by rw [Ar.nodes]
    have hll : (Ar.mk cond labels body).labs = labels.length + Zc6 body := by rw [Ar.labs]
    rw [hnn, hll] at hfew
    rw [hnn] at hN
    have sub : ∀ b' : ByteArray, (b'.size : Int) ≤ b.size + 4 → SL body b' := fun b' hb' => sl_of (fun s hs => by
      have q1 := nodesSL_mem s hs
      have q2 := labsSL_mem s hs
      exact ih s hs (Z3j hf.2.2.2 s hs) (d + 1) _ (WDSL_mem w4 s hs) (by omega) (by omega) (by omega) (by omega)) (by omega) (by have := Zdz body; omega)
    have b2 : (b ++ ⟨#[32, 32]⟩ : ByteArray).size = b.size + 2 := by simp only [Z9, bsz, List.size_toArray, List.length_cons, List.length_nil]
    have b4 : (b ++ ⟨#[32, 32, 32, 32]⟩ : ByteArray).size = b.size + 4 := by simp only [Z9, bsz, List.size_toArray, List.length_cons, List.length_nil]
    refine ⟨fun o => ?_, fun o => ⟨hf.2.1.2, sub _ (by omega)⟩⟩
    subst o
    unfold headA at w1
    simp only [Int.reduceBEq, cond_true, Bool.and_eq_true] at w1
    obtain ⟨c, hc⟩ : ∃ c, cond = [c] := List.length_eq_one_iff.1 (by have := eq_of_beq w1.1.1; have h2 : ((cond.length : Nat) : Int) = 1 := this; omega)
    obtain ⟨g1, g2⟩ := goodL w3 (by omega) c (by rw [hc]; simp)
    exact ⟨⟨c, hc, g1, g2⟩, sub _ (by omega)⟩
theorem slT_form : ∀ {l : List St}, WDSL l 1 → l ≠ [] → ∃ c x, slT l [] = c :: x ∧ c ≠ 32 ∧ ∃ y, slT l [] = y ++ [10] := by
  intro l hw hne
  have tailF : ∀ (s : St), headS s = true → ∃ y, stT s [] = y ++ [10] := by
    intro s hs
    rw [stT_eq]
    rcases stmt_facts hs with ⟨o, _⟩ | ⟨o, _⟩ | ⟨o, _⟩ | ⟨o, _⟩ | ⟨o, _⟩ | ⟨o, _⟩ | ⟨o, _⟩ | o | o
    all_goals (rw [o]; simp only [Int.reduceBEq, cond_true, cond_false])
    · exact ⟨[] ++ (s.name.data.toList ++ ((bif s.index.isEmpty then [] else 91 :: (tx s.index 0 ++ [93])) ++ ([32, 58, 61, 32] ++ (tx s.args 0 ++ [59])))), by simp⟩
    · exact ⟨[] ++ (s.name.data.toList ++ (40 :: ((Zcx (fT s.fields s.args)).data.toList ++ [41, 59]))), by simp⟩
    · exact ⟨[] ++ ([105, 102, 32] ++ (tx s.args 0 ++ ([32, 116, 104, 101, 110, 10] ++ (slT s.body ([] ++ [32, 32]) ++ (alT s.arms false [] ++ (otB s [] (slT s.other ([] ++ [32, 32])) ++ ([] ++ [101, 110, 100, 95, 105, 102, 59]))))))), by simp⟩
    · exact ⟨[] ++ ([99, 97, 115, 101, 32] ++ (tx s.args 0 ++ ([32, 111, 102, 10] ++ (alT s.arms true [] ++ (otB s [] (slT s.other ([] ++ [32, 32])) ++ ([] ++ [101, 110, 100, 95, 99, 97, 115, 101, 59])))))), by simp⟩
    · exact ⟨[] ++ ([102, 111, 114, 32] ++ (s.name.data.toList ++ ([32, 58, 61, 32] ++ (tx s.args 0 ++ ([32, 116, 111, 32] ++ (tx s.args 1 ++ ((bif s.n != 1 then [32, 98, 121, 32] ++ (Zaq s.n).data.toList else []) ++ ([32, 100, 111, 10] ++ (slT s.body ([] ++ [32, 32]) ++ ([] ++ [101, 110, 100, 95, 102, 111, 114, 59])))))))))), by simp⟩
    · exact ⟨[] ++ ([119, 104, 105, 108, 101, 32] ++ (tx s.args 0 ++ ([32, 100, 111, 10] ++ (slT s.body ([] ++ [32, 32]) ++ ([] ++ [101, 110, 100, 95, 119, 104, 105, 108, 101, 59]))))), by simp⟩
    · exact ⟨[] ++ ([114, 101, 112, 101, 97, 116, 10] ++ (slT s.body ([] ++ [32, 32]) ++ ([] ++ ([117, 110, 116, 105, 108, 32] ++ (tx s.args 0 ++ (10 :: ([] ++ [101, 110, 100, 95, 114, 101, 112, 101, 97, 116, 59]))))))), by simp⟩
    · exact ⟨[101, 120, 105, 116, 59], by simp⟩
    · exact ⟨[114, 101, 116, 117, 114, 110, 59], by simp⟩
  have headF : ∀ (s : St), headS s = true → ∃ c x, stT s [] = c :: x ∧ c ≠ 32 := by
    intro s hs
    have nm : Zan s.name = true → ∃ c x, s.name.data.toList = c :: x ∧ c ≠ 32 := by
      intro h
      unfold Zan at h
      simp only [Bool.and_eq_true] at h
      have hr := h.1.1
      cases hd : s.name.data.toList with
      | nil => rw [hd] at hr; simp [runB] at hr
      | cons c x =>
        rw [hd] at hr
        simp only [runB, Bool.and_eq_true] at hr
        refine ⟨c, x, rfl, ?_⟩
        rintro rfl
        have := hr.1
        revert this; decide
    rw [stT_eq]
    rcases stmt_facts hs with ⟨o, q, _⟩ | ⟨o, q, _⟩ | ⟨o, _⟩ | ⟨o, _⟩ | ⟨o, q, _⟩ | ⟨o, _⟩ | ⟨o, _⟩ | o | o
    all_goals (rw [o]; simp only [Int.reduceBEq, cond_true, cond_false, List.nil_append])
    · obtain ⟨c, x, e, h⟩ := nm q; rw [e]; exact ⟨c, _, rfl, h⟩
    · obtain ⟨c, x, e, h⟩ := nm q; rw [e]; exact ⟨c, _, rfl, h⟩
    all_goals exact ⟨_, _, rfl, by decide⟩
  induction l with
  | nil => exact absurd rfl hne
  | cons s l ih =>
    rw [WDSL] at hw
    have hs : headS s = true := by
      have := hw.1
      cases s
      rw [WDS] at this
      exact this.1
    obtain ⟨c, x, e1, e2⟩ := headF s hs
    obtain ⟨y, e3⟩ := tailF s hs
    rw [slT]
    refine ⟨c, x ++ slT l [], by rw [e1]; rfl, e2, ?_⟩
    by_cases hl : l = []
    · subst hl
      exact ⟨y, by rw [slT, List.append_nil, e3]⟩
    · obtain ⟨_, _, _, _, z, e4⟩ := ih hw.2 hl
      exact ⟨stT s [] ++ z, by rw [e4, List.append_assoc]⟩
theorem dw_head : ∀ {x : List UInt8} {c : UInt8} {r : List UInt8}, x ++ [10] = c :: r → c ≠ 32 → dw ((Z4r x).headD []) = (Z4r x).headD []
  | [], _, _, _, _ => rfl
  | b :: x, c, r, h, hc => by
    have hb : b = c := by simpa using (List.cons.inj h).1
    subst hb
    rw [Z4r]
    split
    · rfl
    · have : (b == 32) = false := by rw [← Bool.not_eq_true, beq_iff_eq]; exact hc
      simp [dw, this]
/-- Short's line of a text -/
theorem short_text {t : List UInt8} (hlen : t.length < 80000000) (hf : t = [] ∨ ∃ c x, t = c :: x ∧ c ≠ 32 ∧ ∃ y, t = y ++ [10]) : Ev (fun k => Z7x k (bB t)) (bB (jn false t)) := by
  rcases hf with rfl | ⟨c, x, e, hc, y, e2⟩
  · exact ⟨20, fun k hk => by
      have : ∀ m, Z7x (m + 20) (bB []) = some (bB (jn false [])) := fun m => by kernel_rfl
      have h := this (k - 20)
      rwa [show k - 20 + 20 = k by omega] at h⟩
  · subst e2
    have h := line_ok (x := y) (by simp at hlen; omega)
    refine h.val ?_
    rw [dw_head e hc, (jn_lines y).1]
end Go.Proofs.YtaknpdhmhifpeaaGreatDoor
