import Derived.Test.YtkodnhngllfemaaGreatDoorB13
import Derived.Great.FillDense
set_option linter.unusedVariables false
set_option linter.unusedSimpArgs false
namespace Go.Proofs.YtkodnhngllfemaaGreatDoor
open Go
def isF (fl : List Nat) (i : Nat) : Bool := fl.any (Nat.beq i)
section
variable {P : Program} {n : NS} {ops : Array Oper} {Q : Exit → Act → World → Prop} {E : Env} {w : World} {h : Hp}
def Float1 (P : Program) (ops : Array Oper) (Φ : Nat → Value → World → Hp → Prop) (i : Nat) (o : Oper) (a : Act) (w1 : World) (h1 : Hp) (w' : World) : Prop :=
  ∃ v, Region.wanted o (yielded ops a.tmps) = true ∧ (execOp a.eval o).run P w' = .ok (.value v) w' ∧ Φ i v w1 h1
def FrontF (P : Program) (n : NS) (ops : Array Oper) (E : Env) (w : World) (h : Hp) (Φ : Nat → Value → World → Hp → Prop) (i : Nat) (o : Oper) : Prop :=
  ∀ a w1 h1 w', Sub h1 w' → Stp [] w h w1 h1 → At n E a → (∀ j d, dep o j = true → (ops[j]?).bind (·.dst) = some d → Φ j (a.tmps.getD d undef) w1 h1) → Float1 P ops Φ i o a w1 h1 w'
def FrontA1 (P : Program) (ops : Array Oper) (Φ : Nat → Value → World → Hp → Prop) (i : Nat) (o : Oper) (a : Act) (w1 : World) (h1 : Hp) : Prop :=
  ∃ v w2 h2, Region.wanted o (yielded ops a.tmps) = true ∧ (execOp a.eval o).run P w1 = .ok (.value v) w2 ∧ Stp [] w1 h1 w2 h2 ∧ Φ i v w2 h2 ∧ ∃ b, v = .pointer (some ⟨b, 0, none⟩) ∧ w1.heap.size ≤ b ∧ b < w2.heap.size
def FrontA (P : Program) (n : NS) (ops : Array Oper) (Q : Exit → Act → World → Prop) (E : Env) (w : World) (h : Hp) (Φ : Nat → Value → World → Hp → Prop) (i : Nat) (o : Oper) : Prop :=
  ∀ a w1 h1, Stp [] w h w1 h1 → At n E a → (∀ j d, dep o j = true → (ops[j]?).bind (·.dst) = some d → Φ j (a.tmps.getD d undef) w1 h1) → FrontA1 P ops Φ i o a w1 h1
def isAl (al : List Nat) (i : Nat) : Bool := al.any (Nat.beq i)
def FrontsF (P : Program) (n : NS) (ops : Array Oper) (Q : Exit → Act → World → Prop) (E : Env) (w : World) (h : Hp) (Φ : Nat → Value → World → Hp → Prop) (fl al : List Nat) : Nat → List Oper → Prop
  | _, [] => True
  | i, o :: l => (if isF fl i = true then FrontF P n ops E w h Φ i o else if isAl al i = true then FrontA P n ops Q E w h Φ i o else Front P n ops Q E w h Φ i o) ∧ FrontsF P n ops Q E w h Φ fl al (i + 1) l
theorem FrontsF.nil {Φ : Nat → Value → World → Hp → Prop} {fl al : List Nat} {i : Nat} : FrontsF P n ops Q E w h Φ fl al i [] := trivial
theorem FrontsF.float {Φ : Nat → Value → World → Hp → Prop} {fl al : List Nat} {i : Nat} {o : Oper} {l : List Oper} (hf : isF fl i = true) (a : FrontF P n ops E w h Φ i o) (t : FrontsF P n ops Q E w h Φ fl al (i + 1) l) : FrontsF P n ops Q E w h Φ fl al i (o :: l) := ⟨by rw [if_pos hf]; exact a, t⟩
theorem FrontsF.front {Φ : Nat → Value → World → Hp → Prop} {fl al : List Nat} {i : Nat} {o : Oper} {l : List Oper} (hf : (isF fl i || isAl al i) = false) (a : Front P n ops Q E w h Φ i o) (t : FrontsF P n ops Q E w h Φ fl al (i + 1) l) : FrontsF P n ops Q E w h Φ fl al i (o :: l) := by
  rw [Bool.or_eq_false_iff] at hf
  exact ⟨by rw [if_neg (by rw [hf.1]; decide), if_neg (by rw [hf.2]; decide)]; exact a, t⟩
theorem FrontsF.al {Φ : Nat → Value → World → Hp → Prop} {fl al : List Nat} {i : Nat} {o : Oper} {l : List Oper} (hf : (!isF fl i && isAl al i) = true) (a : FrontA P n ops Q E w h Φ i o) (t : FrontsF P n ops Q E w h Φ fl al (i + 1) l) : FrontsF P n ops Q E w h Φ fl al i (o :: l) := by
  rw [Bool.and_eq_true, Bool.not_eq_true'] at hf
  exact ⟨by rw [if_neg (by rw [hf.1]; decide), if_pos hf.2]; exact a, t⟩
theorem FrontsF_at {Φ : Nat → Value → World → Hp → Prop} {fl al : List Nat} : ∀ {l : List Oper} {i : Nat}, FrontsF P n ops Q E w h Φ fl al i l → ∀ j o, l[j]? = some o → (if isF fl (i + j) = true then FrontF P n ops E w h Φ (i + j) o else if isAl al (i + j) = true then FrontA P n ops Q E w h Φ (i + j) o else Front P n ops Q E w h Φ (i + j) o)
  | [], i, _, j, o, ho => by simp at ho
  | a :: l, i, hf, j, o, ho => by
    cases j with
    | zero => simp at ho; subst ho; exact hf.1
    | succ j =>
      have := FrontsF_at hf.2 j o (by simpa using ho)
      have e : i + (j + 1) = i + 1 + j := by omega
      rw [e]; exact this
def toMN (l : List Oper) (m : Nat) (fl : List Nat) (j : Nat) : Bool := (List.range m).any fun q => Nat.blt j (q + 1) && !isF fl (q + 1) && (match l[q + 1]? with | some o => dep o j | none => false)
def toMF (l : List Oper) (m : Nat) (fl : List Nat) : Nat → Bool
  | 0 => true
  | k + 1 => (isF fl k || toMN l m fl k) && toMF l m fl k
theorem toMF_of {l : List Oper} {m : Nat} {fl : List Nat} : ∀ {k j : Nat}, toMF l m fl k = true → j < k → isF fl j = false → toMN l m fl j = true
  | 0, j, _, hj, _ => absurd hj (Nat.not_lt_zero j)
  | k + 1, j, h, hj, hf => by
    simp only [toMF, Bool.and_eq_true, Bool.or_eq_true] at h
    by_cases e : j = k
    · subst e
      rcases h.1 with q | q
      · rw [hf] at q; cases q
      · exact q
    · exact toMF_of h.2 (by omega) hf
def flOK (l : List Oper) (m : Nat) (fl : List Nat) : Bool :=
  Nat.blt m l.length && toMF l m fl m && chainOK (l.drop (m + 1)) m && fl.all (fun f => Nat.blt f m && (match l[m + 1]? with | some o => dep o f | none => true))
theorem toM_some {l : List Oper} {m j : Nat} {fl : List Nat} (h2 : toMN l m fl j = true) : ∃ k o, j < k ∧ k ≤ m ∧ isF fl k = false ∧ l[k]? = some o ∧ dep o j = true := by
  unfold toMN at h2
  obtain ⟨q, hq, hd⟩ := List.any_eq_true.1 h2
  simp only [Bool.and_eq_true, Nat.blt_eq, Bool.not_eq_true'] at hd
  have hqm := List.mem_range.1 hq
  cases ho : l[q + 1]? with
  | none => rw [ho] at hd; cases hd.2
  | some o => rw [ho] at hd; exact ⟨q + 1, o, hd.1.1, by omega, hd.1.2, ho, hd.2⟩
theorem getD_tf {L : Array Bool} {j : Nat} (hj : j < L.size) : L.getD j true = L.getD j false := by
  simp [Array.getD_eq_getD_getElem?, Array.getElem?_eq_getElem hj]
theorem put_other {a : Act} {d t : Tmp} {v : Value} (hne : d ≠ t) : ((a.put (some d) v).tmps.getD t undef) = a.tmps.getD t undef := by
  simp only [Act.put, Array.getD_eq_getD_getElem?, Array.getElem?_setIfInBounds]
  rw [if_neg hne]
theorem put_same {a : Act} {d : Tmp} {v : Value} (hd : d < a.tmps.size) : ((a.put (some d) v).tmps.getD d undef) = v := by
  simp [Act.put, Array.getD_eq_getD_getElem?, Array.getElem?_setIfInBounds, hd]
theorem At.put0 {a : Act} {d : Tmp} {v : Value} (hat : At n E a) (hlk : lk E d = none) : At n E (a.put (some d) v) := by
  refine ⟨hat.defers, by simp [Act.put, hat.size], fun t u ht => ?_⟩
  have hne : d ≠ t := fun q => by subst q; rw [hlk] at ht; cases ht
  rw [put_other hne]; exact hat.slot t u ht
theorem WC.drawnF {id m : Nat} {l : List Oper} {ob : Oper} (E0 : Env) (ks fl al : List Nat) (hE : sel ks E = E0) (Φ : Nat → Value → World → Hp → Prop) (hm : P.follows .mixedOrders = true) (hs : Sub h w)
    (he : edgesOK 0 l = true) (hsuf : flOK l m fl = true) (hd : dstsOK E0 [] (l.take m) = true) (hlt : ltOK n (l.take m) = true) (hob : l[m]? = some ob) (hobd : ob.dst = none) (hobg : ob.guard = none)
    (stab : ∀ i v w1 h1 w2 h2, Φ i v w1 h1 → Stp [] w1 h1 w2 h2 → Φ i v w2 h2)
    (front : FrontsF P n l.toArray Q E0 w h Φ fl al 0 (l.take m))
    (k : ∀ a w1 h1, Stp [] w h w1 h1 → At n E0 a → (∀ i d, i < m → isF fl i = false → (l[i]?).bind (·.dst) = some d → Φ i (a.tmps.getD d undef) w1 h1) →
      (∀ i j d d', i < m → j < m → (isAl al i && isAl al j && !isF fl i && !isF fl j && !Nat.beq i j) = true → (l[i]?).bind (·.dst) = some d → (l[j]?).bind (·.dst) = some d' → a.tmps.getD d' undef ≠ a.tmps.getD d undef) →
      ∃ w2 E1, At n E1 a ∧ OU P ob E1 w1 w2 ∧ Sub h1 w2 ∧ (∀ i d, i < m → isF fl i = true → (l[i]?).bind (·.dst) = some d → lk E1 d = none) ∧
        ∀ a', At n E1 a' → (∀ i d, i < m → isF fl i = true → (l[i]?).bind (·.dst) = some d → Φ i (a'.tmps.getD d undef) w1 h1) → wpList P l.toArray Q (l.drop (m + 1)) a' w2) : WC P n (.region id l.toArray true) Q E w := by
  intro a0 ha0'
  have ha0 : At n E0 a0 := by rw [← hE]; exact ha0'.sub (fun t v ht => lk_sel E t v ks ht)
  have hlts : ∀ (i : Nat) (o : Oper) (d : Nat), i < m → l[i]? = some o → o.dst = some d → d < n := fun i o d hi ho hd => ltOK_at hlt i o d (by rw [List.getElem?_take_of_lt hi]; exact ho) hd
  have hml : m < l.length := (List.getElem?_eq_some_iff.1 hob).1
  unfold flOK at hsuf
  simp only [Bool.and_eq_true] at hsuf
  obtain ⟨⟨⟨_, hto⟩, hchain⟩, hfl⟩ := hsuf
  have hchain' : ∀ i o, m < i → l[i]? = some o → dep o (i - 1) = true := fun i o him ho => by
    have hil : i < l.length := (List.getElem?_eq_some_iff.1 ho).1
    have := chainOK_at hchain (i - (m + 1)) o (by rw [List.getElem?_drop, Nat.add_sub_cancel' (by omega)]; exact ho)
    have e : m + (i - (m + 1)) = i - 1 := by omega
    rwa [e] at this
  have hflm : ∀ f, isF fl f = true → f < m ∧ ∀ o, l[m + 1]? = some o → dep o f = true := fun f hf => by
    obtain ⟨x, hx, he⟩ := List.any_eq_true.1 hf
    have := Nat.eq_of_beq_eq_true he
    subst this
    have := List.all_eq_true.1 hfl f hx
    simp only [Bool.and_eq_true, Nat.blt_eq] at this
    refine ⟨this.1, fun o ho => ?_⟩
    have h2 := this.2
    rw [ho] at h2
    exact h2
  refine wp_region_any hm ?_
  let DD : Array Bool → Act → World → Prop := fun L a w1 => ∀ i d, i < m → isAl al i = true → isF fl i = false → L.getD i false = true → (l[i]?).bind (·.dst) = some d →
    (∃ b, a.tmps.getD d undef = .pointer (some ⟨b, 0, none⟩) ∧ b < w1.heap.size) ∧ ∀ j d', j < m → isAl al j = true → isF fl j = false → L.getD j false = true → j ≠ i → (l[j]?).bind (·.dst) = some d' → a.tmps.getD d' undef ≠ a.tmps.getD d undef
  let I : Array Bool → Act → World → Prop := fun L a w1 => L.size = l.length ∧
    ((∃ kk, m < kk ∧ kk ≤ l.length ∧ L = flags l.length kk ∧ wpList P l.toArray Q (l.drop kk) a w1) ∨
     ((∀ j, m ≤ j → j < l.length → L.getD j false = false) ∧ (∀ i o j, i < m → L.getD i false = true → l[i]? = some o → dep o j = true → L.getD j false = true) ∧ ∃ h1, Stp [] w h w1 h1 ∧ At n E0 a ∧ DD L a w1 ∧ ∀ i d, i < m → L.getD i false = true → (l[i]?).bind (·.dst) = some d → Φ i (a.tmps.getD d undef) w1 h1) ∨
     (L.getD m false = true ∧ (∀ j, m < j → j < l.length → L.getD j false = false) ∧ (∀ j, j < m → isF fl j = false → L.getD j false = true) ∧ (∃ f, isF fl f = true ∧ L.getD f false = false) ∧ ∃ wb h1 E1, Stp [] w h wb h1 ∧ Sub h1 w1 ∧ At n E0 a ∧ At n E1 a ∧
        (∀ i d, i < m → isF fl i = true → (l[i]?).bind (·.dst) = some d → lk E1 d = none) ∧ (∀ i d, i < m → L.getD i false = true → (l[i]?).bind (·.dst) = some d → Φ i (a.tmps.getD d undef) wb h1) ∧
        ∀ a', At n E1 a' → (∀ i d, i < m → isF fl i = true → (l[i]?).bind (·.dst) = some d → Φ i (a'.tmps.getD d undef) wb h1) → wpList P l.toArray Q (l.drop (m + 1)) a' w1))
  -- behind the store: on, if every float has come
  have finB : ∀ L a w1 wb h1 E1, L.size = l.length → L.getD m false = true → (∀ j, m < j → j < l.length → L.getD j false = false) → (∀ j, j < m → isF fl j = false → L.getD j false = true) → Stp [] w h wb h1 → Sub h1 w1 → At n E0 a → At n E1 a →
      (∀ i d, i < m → isF fl i = true → (l[i]?).bind (·.dst) = some d → lk E1 d = none) → (∀ i d, i < m → L.getD i false = true → (l[i]?).bind (·.dst) = some d → Φ i (a.tmps.getD d undef) wb h1) →
      (∀ a', At n E1 a' → (∀ i d, i < m → isF fl i = true → (l[i]?).bind (·.dst) = some d → Φ i (a'.tmps.getD d undef) wb h1) → wpList P l.toArray Q (l.drop (m + 1)) a' w1) → I L a w1 := by
    intro L a w1 wb h1 E1 hsz hLm hback hnf s hsub hat hat1 hlk hΦ hK
    refine ⟨hsz, ?_⟩
    by_cases hall : ∃ f, isF fl f = true ∧ L.getD f false = false
    · exact .inr (.inr ⟨hLm, hback, hnf, hall, wb, h1, E1, s, hsub, hat, hat1, hlk, hΦ, hK⟩)
    · have hfl1 : ∀ f, isF fl f = true → L.getD f false = true := fun f hf => by
        cases q : L.getD f false with
        | true => rfl
        | false => exact absurd ⟨f, hf, q⟩ hall
      refine .inl ⟨m + 1, by omega, by omega, ?_, hK a hat1 (fun i d hi hf hdst => hΦ i d hi (hfl1 i hf) hdst)⟩
      apply Array.ext
      · simp [flags, hsz]
      · intro j g1 g2
        have hj : j < l.length := by rw [← hsz]; exact g1
        have e1 : L.getD j false = L[j] := by simp [Array.getD_eq_getD_getElem?, Array.getElem?_eq_getElem g1]
        have e2 : (flags l.length (m + 1))[j] = Nat.blt j (m + 1) := by simp [flags]
        rw [← e1, e2]
        by_cases hjm : j < m + 1
        · rw [blt_t.2 hjm]
          rcases Nat.lt_or_ge j m with q | q
          · cases hf : isF fl j with
            | true => exact hfl1 j hf
            | false => exact hnf j q hf
          · obtain rfl : j = m := by omega
            exact hLm
        · rw [hback j (by omega) hj]
          symm
          rw [← Bool.not_eq_true, Nat.blt_eq]; exact hjm
  refine wpAny_inv (I := I) (fun L a w hI => by simpa using hI.1) ?_ ?_ _ _ _ _ ?_ ?_
  · -- a step
    intro L a w1 i hI hr
    obtain ⟨hun, o, ho, hedge⟩ := mem_ready.1 hr
    have hol : l[i]? = some o := by simpa using ho
    have hil : i < l.length := (List.getElem?_eq_some_iff.1 hol).1
    have hdone : ∀ j, dep o j = true → L.getD j false = true := fun j hj => by
      obtain ⟨e, he1, he3, he2⟩ := dep_of hj
      have h4 := hedge e he1 he2
      rwa [he3] at h4
    obtain ⟨hsz, ⟨kk, hk1, hk2, rfl, hwp⟩ | ⟨hback, hcl, h1, s, hat, hDD, hΦ⟩ | ⟨hLm, hback, hnf, hsome, wb, h1, E1, s, hsub, hat, hat1, hlk, hΦ, hK⟩⟩ := hI
    · -- the rest, in the order of the text
      rw [Zdw hil] at hun
      have hki : kk ≤ i := by
        rcases Nat.lt_or_ge i kk with q | q
        · rw [blt_t.2 q] at hun; cases hun
        · exact q
      have hik : i = kk := by
        rcases Nat.lt_or_ge kk i with q | q
        · exfalso
          have h4 := hdone (i - 1) (hchain' i o (by omega) hol)
          rw [Zdw (by omega), Nat.blt_eq] at h4
          omega
        · omega
      subst hik
      have hdrop : l.drop i = o :: l.drop (i + 1) := by
        rw [List.drop_eq_getElem_cons hil]
        congr 1
        exact (List.getElem?_eq_some_iff.1 hol).2
      rw [hdrop] at hwp
      unfold wpOp
      simp only [ho]
      unfold wpList at hwp
      have conv : ∀ a' w', wpList P l.toArray Q (l.drop (i + 1)) a' w' → I ((flags l.length i).setIfInBounds i true) a' w' := fun a' w' hh =>
        ⟨by simp [flags], .inl ⟨i + 1, by omega, hil, flags_set hil, hh⟩⟩
      split
      · rename_i hw
        rw [if_pos hw] at hwp
        exact hwp.imp (Oper.wp_mono conv) (fun x => x)
      · rename_i hw
        rw [if_neg hw] at hwp
        exact conv _ _ hwp
    · -- ahead of the store
      rcases Nat.lt_trichotomy i m with him | him | him
      · -- in front
        have hot : (l.take m)[i]? = some o := by rw [List.getElem?_take_of_lt him]; exact hol
        obtain ⟨d, hdst, hlk, _, hdist⟩ := dstsOK_at hd i o hot
        have hfr := FrontsF_at front i o hot
        rw [Nat.zero_add] at hfr
        have hdeps : ∀ j d', dep o j = true → (l.toArray[j]?).bind (·.dst) = some d' → Φ j (a.tmps.getD d' undef) w1 h1 := by
          intro j d' hj hd'
          obtain ⟨e, he1, he3, he2⟩ := dep_of hj
          have h5 := Za6 he i o hol e he1 he2
          rw [he3] at h5
          exact hΦ j d' (by omega) (hdone j hj) (by simpa using hd')
        have next : ∀ v w2 h2, Stp [] w1 h1 w2 h2 → Φ i v w2 h2 → (isAl al i = true → isF fl i = false → ∃ b, v = .pointer (some ⟨b, 0, none⟩) ∧ w1.heap.size ≤ b ∧ b < w2.heap.size) → I (L.setIfInBounds i true) (a.put o.dst v) w2 := by
          intro v w2 h2 s2 hv hA
          have hil2 : i < L.size := by omega
          have set_t : ∀ q, L.getD q false = true → (L.setIfInBounds i true).getD q false = true := by
            intro q hq
            by_cases hqi : i = q
            · subst hqi; simp [Array.getD_eq_getD_getElem?, Array.getElem?_setIfInBounds, hil2]
            · rw [getD_set_ne false hqi]; exact hq
          refine ⟨by simp [hsz], .inr (.inl ⟨fun j hj1 hj2 => ?_, fun i' o' j' hi' hL' ho' hd' => ?_, h2, s.trans0 s2, by rw [hdst]; exact hat.put0 hlk, ?_, fun j d' hj hL hd' => ?_⟩)⟩
          · rw [getD_set_ne false (by omega)]; exact hback j hj1 hj2
          · apply set_t
            by_cases hii : i' = i
            · subst hii
              rw [hol] at ho'; cases ho'
              exact hdone j' hd'
            · rw [getD_set_ne false (Ne.symm hii)] at hL'
              exact hcl i' o' j' hi' hL' ho' hd'
          · -- boxes are different
            have hslot : ∀ j d', j ≠ i → j < m → (l[j]?).bind (·.dst) = some d' → (a.put o.dst v).tmps.getD d' undef = a.tmps.getD d' undef := fun j d' hji hj hd' => by
              have hne : d ≠ d' := fun q => by
                subst q
                obtain ⟨o', ho', hd2⟩ := Option.bind_eq_some_iff.1 hd'
                exact hdist j o' hji (by rw [List.getElem?_take_of_lt hj]; exact ho') hd2
              rw [hdst, put_other hne]
            have hself : ∀ d', (l[i]?).bind (·.dst) = some d' → (a.put o.dst v).tmps.getD d' undef = v := fun d' hd' => by
              have e1 : d' = d := by rw [hol] at hd'; simp [hdst] at hd'; exact hd'.symm
              subst e1
              rw [hdst, put_same (by rw [hat.size]; exact hlts _ o d' him hol hdst)]
            intro j dj hj haj hfj hLj hdj
            by_cases hji : j = i
            · subst hji
              obtain ⟨b, hb1, hb2, hb3⟩ := hA haj hfj
              rw [hself dj hdj]
              refine ⟨⟨b, hb1, hb3⟩, fun q dq hq haq hfq hLq hqi hdq => ?_⟩
              rw [hslot q dq hqi hq hdq]
              rw [getD_set_ne false (Ne.symm hqi)] at hLq
              obtain ⟨⟨c, hc1, hc2⟩, _⟩ := hDD q dq hq haq hfq hLq hdq
              rw [hc1, hb1]
              intro e; injection e with e; injection e with e; injection e with e; omega
            · rw [getD_set_ne false (Ne.symm hji)] at hLj
              obtain ⟨⟨c, hc1, hc2⟩, hc3⟩ := hDD j dj hj haj hfj hLj hdj
              rw [hslot j dj hji hj hdj]
              refine ⟨⟨c, hc1, Nat.lt_of_lt_of_le hc2 s2.size⟩, fun q dq hq haq hfq hLq hqj hdq => ?_⟩
              by_cases hqi : q = i
              · subst hqi
                obtain ⟨b, hb1, hb2, hb3⟩ := hA haq hfq
                rw [hself dq hdq, hc1, hb1]
                intro e; injection e with e; injection e with e; injection e with e; omega
              · rw [getD_set_ne false (Ne.symm hqi)] at hLq
                rw [hslot q dq hqi hq hdq]
                exact hc3 q dq hq haq hfq hLq hqj hdq
          · by_cases hji : j = i
            · subst hji
              have e1 : d' = d := by rw [hol] at hd'; simp [hdst] at hd'; exact hd'.symm
              subst e1
              rw [hdst, put_same (by rw [hat.size]; exact hlts _ o d' him hol hdst)]
              exact hv
            · have hL' : L.getD j false = true := by
                rw [getD_set_ne false (Ne.symm hji)] at hL; exact hL
              have hp := stab j _ w1 h1 w2 h2 (hΦ j d' hj hL' hd') s2
              have hne : d ≠ d' := fun q => by
                subst q
                obtain ⟨o', ho', hd2⟩ := Option.bind_eq_some_iff.1 hd'
                exact hdist j o' hji (by rw [List.getElem?_take_of_lt hj]; exact ho') hd2
              rw [hdst, put_other hne]; exact hp
        unfold wpOp
        simp only [ho]
        split at hfr
        · rename_i hff
          obtain ⟨v, hw, hrun, hv⟩ := hfr a w1 h1 w1 s.sub s hat hdeps
          simp only [hw, if_true]
          refine .inl ?_
          unfold Oper.wp
          rw [hrun, Oper.upon_value]
          exact next v w1 h1 (Stp.refl s.sub []) hv (fun _ q => by rw [hff] at q; cases q)
        · split at hfr
          · obtain ⟨v, w2, h2, hw, hrun, s2, hv, hb⟩ := hfr a w1 h1 s hat hdeps
            simp only [hw, if_true]
            refine .inl ?_
            unfold Oper.wp
            rw [hrun, Oper.upon_value]
            exact next v w2 h2 s2 hv (fun _ _ => hb)
          · rename_i hna
            rcases hfr a w1 h1 s hat hdeps with ⟨hw, hwp⟩ | ⟨hw, hu⟩
            · simp only [hw, if_true]
              refine .inl (Oper.wp_mono ?_ hwp)
              rintro a' w2 ⟨v, h2, rfl, s2, hv⟩
              exact next v w2 h2 s2 hv (fun q => absurd q hna)
            · simp only [hw, Bool.false_eq_true, if_false]
              exact next undef w1 h1 (Stp.refl s.sub []) hu (fun q => absurd q hna)
      · -- the store
        subst him
        rw [hob] at hol; cases hol
        have hnf : ∀ j, j < i → isF fl j = false → L.getD j false = true := by
          have all : ∀ r j, i ≤ j + r → j < i → isF fl j = false → L.getD j false = true := by
            intro r
            induction r with
            | zero => intro j h1 h2; omega
            | succ r ih =>
              intro j h1 h2 h3
              obtain ⟨q, oq, hq1, hq2, hfq, hq3, hq4⟩ := toM_some (toMF_of hto h2 h3)
              by_cases hqi : q = i
              · subst hqi
                rw [hob] at hq3; cases hq3
                exact hdone j hq4
              · exact hcl q oq j (by omega) (ih q (by omega) (by omega) hfq) hq3 hq4
          exact fun j hj hf => all (i - j) j (by omega) hj hf
        obtain ⟨w2, E1, hat1, hou, hsub2, hlk, hK⟩ := k a w1 h1 s hat (fun j d hj hf hdst => hΦ j d hj (hnf j hj hf) hdst) (fun p q d d' hp hq hc hd1 hd2 => by
          simp only [Bool.and_eq_true, Bool.not_eq_true'] at hc
          obtain ⟨⟨⟨⟨c1, c2⟩, c3⟩, c4⟩, c5⟩ := hc
          exact (hDD p d hp c1 c3 (hnf p hp c3) hd1).2 q d' hq c2 c4 (hnf q hq c4) (fun e => by subst e; rw [Nat.beq_refl] at c5; cases c5) hd2)
        unfold wpOp
        simp only [ho]
        have hw : Region.wanted ob (yielded l.toArray a.tmps) = true := by simp [Region.wanted, hobg]
        simp only [hw, if_true]
        refine .inl ?_
        unfold Oper.wp
        rw [hou n a hat1]
        have hil2 : i < L.size := by omega
        show I (L.setIfInBounds i true) _ w2
        refine finB _ _ w2 w1 h1 E1 (by simp [hsz]) (by simp [Array.getD_eq_getD_getElem?, Array.getElem?_setIfInBounds, hil2]) (fun j hj1 hj2 => by rw [getD_set_ne false (by omega)]; exact hback j (by omega) hj2) (fun j hj hf => by rw [getD_set_ne false (by omega)]; exact hnf j hj hf) s hsub2 ?_ ?_ hlk (fun j d hj hL hdst => ?_) hK
        · simpa [hobd, Act.put] using hat
        · simpa [hobd, Act.put] using hat1
        · rw [getD_set_ne false (by omega)] at hL
          simpa [hobd, Act.put] using hΦ j d hj hL hdst
      · -- behind it: not yet
        exfalso
        have h4 := hdone (i - 1) (hchain' i o him hol)
        rw [hback (i - 1) (by omega) (by omega)] at h4
        cases h4
    · -- a float behind the store
      obtain ⟨f0, hf0, hf0L⟩ := hsome
      have him : i < m := by
        rcases Nat.lt_trichotomy i m with q | q | q
        · exact q
        · subst q
          rw [getD_tf (by omega), hLm] at hun; cases hun
        · exfalso
          by_cases q1 : i = m + 1
          · subst q1
            have h4 := hdone f0 ((hflm f0 hf0).2 o hol)
            rw [hf0L] at h4; cases h4
          · have h4 := hdone (i - 1) (hchain' i o q hol)
            rw [hback (i - 1) (by omega) (by omega)] at h4
            cases h4
      have hif : isF fl i = true := by
        cases q : isF fl i with
        | true => rfl
        | false =>
          rw [getD_tf (by omega), hnf i him q] at hun; cases hun
      have hot : (l.take m)[i]? = some o := by rw [List.getElem?_take_of_lt him]; exact hol
      obtain ⟨d, hdst, hlk0, _, hdist⟩ := dstsOK_at hd i o hot
      have hfr := FrontsF_at front i o hot
      rw [Nat.zero_add, if_pos hif] at hfr
      have hdeps : ∀ j d', dep o j = true → (l.toArray[j]?).bind (·.dst) = some d' → Φ j (a.tmps.getD d' undef) wb h1 := by
        intro j d' hj hd'
        obtain ⟨e, he1, he3, he2⟩ := dep_of hj
        have h5 := Za6 he i o hol e he1 he2
        rw [he3] at h5
        exact hΦ j d' (by omega) (hdone j hj) (by simpa using hd')
      obtain ⟨v, hw, hrun, hv⟩ := hfr a wb h1 w1 hsub s hat hdeps
      unfold wpOp
      simp only [ho, hw, if_true]
      refine .inl ?_
      unfold Oper.wp
      rw [hrun, Oper.upon_value]
      have hil2 : i < L.size := by omega
      have hdl : (l[i]?).bind (·.dst) = some d := by rw [hol]; exact hdst
      refine finB _ _ w1 wb h1 E1 (by simp [hsz]) (by rw [getD_set_ne false (by omega)]; exact hLm) (fun j hj1 hj2 => by rw [getD_set_ne false (by omega)]; exact hback j hj1 hj2) (fun j hj hf => ?_) s hsub ?_ ?_ hlk (fun j d' hj hL hd' => ?_) hK
      · have hne : i ≠ j := fun q => by subst q; rw [hif] at hf; cases hf
        rw [getD_set_ne false hne]; exact hnf j hj hf
      · rw [hdst]; exact hat.put0 hlk0
      · rw [hdst]; exact hat1.put0 (hlk i d him hif hdl)
      · by_cases hji : j = i
        · subst hji
          have e1 : d' = d := by rw [hdl] at hd'; cases hd'; rfl
          subst e1
          rw [hdst, put_same (by rw [hat.size]; exact hlts _ o d' him hol hdst)]
          exact hv
        · have hL' : L.getD j false = true := by
            rw [getD_set_ne false (Ne.symm hji)] at hL; exact hL
          have hne : d ≠ d' := fun q => by
            subst q
            obtain ⟨o', ho', hd2⟩ := Option.bind_eq_some_iff.1 hd'
            exact hdist j o' hji (by rw [List.getElem?_take_of_lt hj]; exact ho') hd2
          rw [hdst, put_other hne]; exact hΦ j d' hj hL' hd'
  · -- the end
    intro L a w1 hI hr
    have hsz := hI.1
    have key : ∀ N j, j ≤ N → j < l.length → L.getD j false = false → False := by
      intro N
      induction N with
      | zero =>
        intro j hj hjl hjf
        obtain rfl : j = 0 := by omega
        have : 0 ∈ Region.ready .any l.toArray L := mem_ready.2 ⟨by rw [getD_tf (by omega)]; exact hjf, l[0]'(by omega), by simp, fun e he1 hb => by
          have := Za6 he 0 _ (List.getElem?_eq_getElem (by omega)) e he1 hb
          omega⟩
        rw [hr] at this; cases this
      | succ N ih =>
        intro j hj hjl hjf
        have : j ∈ Region.ready .any l.toArray L := mem_ready.2 ⟨by rw [getD_tf (by omega)]; exact hjf, l[j], by simp [hjl], fun e he1 hb => by
          have h5 := Za6 he j _ (List.getElem?_eq_getElem hjl) e he1 hb
          cases hq : L.getD e.on false with
          | true => rfl
          | false => exact (ih e.on (by omega) (by omega) hq).elim⟩
        rw [hr] at this; cases this
    obtain ⟨_, ⟨kk, hk1, hk2, rfl, hwp⟩ | ⟨hback, _⟩ | ⟨_, _, _, ⟨f, hf, hfL⟩, _⟩⟩ := hI
    · have : kk = l.length := by
        rcases Nat.lt_or_ge kk l.length with q | q
        · exact (key kk kk (Nat.le_refl _) q (by rw [Zdw q, ← Bool.not_eq_true, Nat.blt_eq]; omega)).elim
        · omega
      subst this
      rw [List.drop_length] at hwp
      exact hwp
    · exact (key m m (Nat.le_refl _) hml (hback m (Nat.le_refl _) hml)).elim
    · have := (hflm f hf).1
      exact (key f f (Nat.le_refl _) (by omega) hfL).elim
  · have : ∀ s : Nat, unl (List.replicate s false) = s := by
      intro s
      induction s with
      | zero => rfl
      | succ s ih => simp [List.replicate_succ, unl, ih]; omega
    simp [this]
  · have s0 : Stp [] w h { w with drawn := w.drawn + 1 } h := Stp.drew hs _
    have hf : ∀ i, (Array.replicate l.toArray.size false).getD i false = false := by
      intro i
      rw [Array.getD_eq_getD_getElem?]
      cases q : (Array.replicate l.toArray.size false)[i]? with
      | none => rfl
      | some b =>
        have := Array.getElem?_eq_some_iff.1 q
        obtain ⟨q1, q2⟩ := this
        simp at q2
        simp [q2]
    exact ⟨by simp, .inr (.inl ⟨fun j _ _ => hf j, (fun i' o' j' hi' hL' => by rw [hf] at hL'; cases hL'), h, s0, ha0, (fun i d _ _ _ hL => by rw [hf] at hL; cases hL), (fun i d hi hL => by rw [hf] at hL; cases hL)⟩)⟩
theorem Zc3 {z : Nat} : ∀ u ∈ ([] : List Value), u.cells.size = z := by simp
theorem Z4a {z : Nat} {a : Value} {l : List Value} (h : a.cells.size = z) (hl : ∀ u ∈ l, u.cells.size = z) : ∀ u ∈ a :: l, u.cells.size = z := by
  intro u hu; rcases List.mem_cons.1 hu with rfl | hu
  · exact h
  · exact hl u hu
theorem Z14 {dd : Nat} {ty : TypeId} {ps : String} {af : Array Edge} {g : Option (Nat × Bool)} {rest : List Oper} {t e z : TypeId} {len : Nat} {parts : List (Nat × Operand)} {us cs : List Value} {zv : Value} (hn : Nat.blt dd n = true) (hg : Z8f ops E ⟨some dd, .buildSlice t len parts.toArray, ty, ps, af, g⟩ = some true)
    (hv : parts.map (fun p => (ev E p.2).map (p.1, ·)) = ((us.zipIdx 0).map fun x => (x.2, x.1)).map some) (ht : P.underlying t = some (.slice e)) (hz : Zhb P e = some z) (hze : tZero P e = some zv) (hl : us.length = len) (hsz : ∀ u ∈ us, u.cells.size = z) (hcs : us.flatMap (fun v => v.cells.toList) = cs) (hpos : Nat.ble 1 (len * z) = true) (hlen : Nat.ble (len * z) 1000 = true) (hs : Sub h w)
    (k : ∀ w1 h1 b, b = w.heap.size → Stp [] w h w1 h1 → w1.heap[b]? = some (.cells cs.toArray e (0, 0)) → (∀ o, h1 b o = cs[o]?) → WL P n ops Q rest ((dd, .slice (some ⟨b, 0, none⟩) len len) :: E) w1) :
    WL P n ops Q (⟨some dd, .buildSlice t len parts.toArray, ty, ps, af, g⟩ :: rest) E w := by
  have hpos' := Nat.le_of_ble_eq_true hpos
  have hz0 : 0 < z := by
    rcases Nat.eq_zero_or_pos z with q | q
    · subst q; simp at hpos'
    · exact q
  refine WL.buildSlice (zs := []) hn hg hv ht hz hze hpos hlen ?_ hs k
  rw [← hcs]
  exact Go.Great.fill_whole hz0 us _ hsz (by simp [hl])
theorem RS.cells1 {α : Type} [Rp α] {v : Value} {xs : List α} (r : RS h v xs) : v.cells = #[v] := by
  obtain ⟨A, c, rfl, _⟩ := r; rfl
theorem Za2 {b o b' o' : Nat} (h : (some (⟨b, o, none⟩ : Addr)) = some ⟨b', o', none⟩) : b = b' ∧ o = o' := by cases h; exact ⟨rfl, rfl⟩
theorem RS.cellsL {α : Type} [Rp α] {v : Value} {xs : List α} (r : RS h v xs) : v.cells.toList = [v] := by rw [r.cells1]
def LR {α : Type} [Rp α] (h : Hp) : List α → List (List Value) → Prop
  | [], [] => True
  | x :: xs, c :: cs => Rp.R h x c ∧ LR h xs cs
  | _, _ => False
theorem LR.at_ {α : Type} [Rp α] {h : Hp} : ∀ {xs : List α} {css : List (List Value)}, LR h xs css → xs.length = css.length ∧ ∀ (j : Nat) x c, xs[j]? = some x → css[j]? = some c → Rp.R h x c
  | [], [], _ => ⟨rfl, fun j x c hx => by simp at hx⟩
  | [], _ :: _, hl => hl.elim
  | _ :: _, [], hl => hl.elim
  | x :: xs, c :: cs, hl => by
    obtain ⟨h1, h2⟩ := LR.at_ hl.2
    refine ⟨by simp [h1], fun j y d hy hd => ?_⟩
    cases j with
    | zero => simp at hy hd; subst hy; subst hd; exact hl.1
    | succ j => exact h2 j y d (by simpa using hy) (by simpa using hd)
theorem RS.litL {α : Type} [Rp α] {b k : Nat} {cells : List Value} (xs : List α) (css : List (List Value)) (hk : xs.length = k) (hf : css.flatten = cells) (hcell : ∀ o, h b o = cells[o]?) (lr : LR h xs css) : RS h (.slice (some ⟨b, 0, none⟩) k k) xs :=
  RS.lit xs css hk hcell (by rw [← lr.at_.1, hk]) hf lr.at_.2
theorem frontA_alloc {a : Act} {w1 : World} {h1 : Hp} {Φ : Nat → Value → World → Hp → Prop} {i : Nat} {d : Option Tmp} {ty : TypeId} {ps : String} {af : Array Edge} {g : Option (Nat × Bool)} {t : TypeId} {z : Value} {zs : List Value} (ha : At n E a) (hg : Z8f ops E ⟨d, .alloc t, ty, ps, af, g⟩ = some true) (hz : tZero P t = some z) (hzs : z.cells.toList = zs) (hs : Sub h1 w1)
    (k : ∀ w2 b, b = w1.heap.size → Stp [] w1 h1 w2 h1 → OB w2 h1 b t zs → Φ i (.pointer (some ⟨b, 0, none⟩)) w2 h1) :
    FrontA1 P ops Φ i ⟨d, .alloc t, ty, ps, af, g⟩ a w1 h1 := by
  subst hzs
  have hrun : (execOp a.eval ⟨d, .alloc t, ty, ps, af, g⟩).run P w1 = .ok (.value (.pointer (some ⟨w1.heap.size, 0, none⟩))) (w1.alloc (.cells z.cells t)) := by
    simp [execOp, Instr.alloc, Sem.run_bind, run_zero hz, newVar, newRow]
  have e : z.cells = z.cells.toList.toArray := by simp
  rw [e] at hrun
  exact ⟨_, _, h1, Z6e ha hg, hrun, Zcu hs _, k _ _ rfl (Zcu hs _) (alloc_ob hs _ _), _, rfl, Nat.le_refl _, by simp⟩
theorem ptr_ne {b c : Nat} {u v : Value} (h : u ≠ v) (hu : u = .pointer (some ⟨b, 0, none⟩)) (hv : v = .pointer (some ⟨c, 0, none⟩)) : b ≠ c := fun e => h (by rw [hu, hv, e])
theorem front_float {a : Act} {w1 w' : World} {h1 : Hp} {o : Oper} {v : Value} {Φ : Nat → Value → World → Hp → Prop} {i : Nat} (ha : At n E a) (hg : Z8f ops E o = some true) (ho : OV P o E w' v w') (hΦ : Φ i v w1 h1) : Float1 P ops Φ i o a w1 h1 w' := ⟨v, Z6e ha hg, ho n a ha, hΦ⟩
def lkOK (E1 : Env) (l : List Oper) (fl : List Nat) : Bool := fl.all fun f => match (l[f]?).bind (·.dst) with | some d => (lk E1 d).isNone | none => true
theorem lkOK_of {E1 : Env} {l : List Oper} {fl : List Nat} (h : lkOK E1 l fl = true) (i : Nat) (d : Tmp) (hf : isF fl i = true) (hd : (l[i]?).bind (·.dst) = some d) : lk E1 d = none := by
  obtain ⟨x, hx, he⟩ := List.any_eq_true.1 hf
  have := Nat.eq_of_beq_eq_true he
  subst this
  have h1 := List.all_eq_true.1 h i hx
  rw [hd] at h1
  simpa using h1
theorem F.store {m : Nat} {l : List Oper} {fl : List Nat} {G : Act → Prop} {a : Act} {w1 : World} {h1 : Hp} {t ty : TypeId} {ps : String} {af : Array Edge} {g : Option (Nat × Bool)} {x y : Operand} {b o T : Nat} {v : Value} {vs cs ds : List Value} (E1 : Env) (hat : At n E1 a) (hl : lkOK E1 l fl = true)
    (hx : ev E1 x = some (.pointer (some ⟨b, o, none⟩))) (hy : ev E1 y = some v)
    (hvs : v.cells.toList = vs) (hsz : Zhb P t = some vs.length) (hone : ∀ u ∈ vs, u.oneCell' = true) (hb : OB w1 h1 b T cs) (hs : Sub h1 w1) (hlen : o + vs.length ≤ cs.length) (hd : cs.take o ++ vs ++ cs.drop (o + vs.length) = ds)
    (k : ∀ w2, Stp [b] w1 h1 w2 h1 → OB w2 h1 b T ds → ∀ a', At n E1 a' → G a' → wpList P l.toArray Q (l.drop (m + 1)) a' w2) :
    ∃ w2 E1, At n E1 a ∧ OU P ⟨none, .store t x y, ty, ps, af, g⟩ E1 w1 w2 ∧ Sub h1 w2 ∧ (∀ i d, i < m → isF fl i = true → (l[i]?).bind (·.dst) = some d → lk E1 d = none) ∧
        ∀ a', At n E1 a' → G a' → wpList P l.toArray Q (l.drop (m + 1)) a' w2 := by
  subst hvs
  refine ⟨w1.setRow b ds.toArray, E1, hat, fun q c hc => ?_, (Zby hs hb ds).sub, fun i d _ hf hd => lkOK_of hl i d hf hd, k _ (Zby hs hb ds) (Zgs hb ds)⟩
  have hst := run_storeCells_at (P := P) b o T v.cells.toList 0 cs.toArray w1 hb.heap (by simpa using hlen) hone
  have hsize : (sizeOf t).run P w1 = .ok v.cells.size w1 := by rw [Z83 hsz]; simp
  simp only [execOp, hc.ev hx, hc.ev hy, Instr.storeAt, Instr.sureAddr, Sem.run_bind, Sem.run_pure, Result.andThen_ok, storeVar, hsize, ne_eq, not_true_eq_false, if_false]
  simp only [Nat.add_zero] at hst
  simp only [hst, hd, Result.andThen_ok, Sem.run_pure]
end
end Go.Proofs.YtkodnhngllfemaaGreatDoor
