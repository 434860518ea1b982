import Derived.Test.YtkodnhngllfemaaGreatDoorB7
import Derived.Orders
set_option linter.unusedVariables false
set_option linter.unusedSimpArgs false
namespace Go.Proofs.YtkodnhngllfemaaGreatDoor
open Go
def dep (o : Oper) (j : Nat) : Bool := o.after.toList.any fun e => Nat.beq e.on j && Region.binds .any e
def toM (l : List Oper) (m j : Nat) : Bool := ((l.take (m + 1)).drop (j + 1)).any fun o => dep o j
def toMs (l : List Oper) (m : Nat) : Nat → Bool
  | 0 => true
  | k + 1 => toM l m k && toMs l m k
def chainOK : List Oper → Nat → Bool
  | [], _ => true
  | o :: l, i => dep o i && chainOK l (i + 1)
def sufOK (l : List Oper) (m : Nat) : Bool := Nat.beq m l.length || (toMs l m m && chainOK (l.drop (m + 1)) m)
def edgesOK : Nat → List Oper → Bool
  | _, [] => true
  | i, o :: l => o.after.toList.all (fun e => !Region.binds .any e || Nat.blt e.on i) && edgesOK (i + 1) l
def dstsOK (E : Env) : List Nat → List Oper → Bool
  | _, [] => true
  | seen, o :: l => match o.dst with
    | some d => !(seen.any (Nat.beq d)) && (lk E d).isNone && dstsOK E (d :: seen) l
    | none => false
theorem toMs_of {l : List Oper} {m : Nat} : ∀ {k j : Nat}, toMs l m k = true → j < k → toM l m j = true
  | 0, j, _, hj => absurd hj (Nat.not_lt_zero j)
  | k + 1, j, h, hj => by
    simp only [toMs, Bool.and_eq_true] at h
    by_cases e : j = k
    · subst e; exact h.1
    · exact toMs_of h.2 (by omega)
theorem chainOK_at : ∀ {l : List Oper} {i : Nat}, chainOK l i = true → ∀ j o, l[j]? = some o → dep o (i + j) = true
  | [], i, h, j, o, ho => by simp at ho
  | a :: l, i, h, j, o, ho => by
    simp only [chainOK, Bool.and_eq_true] at h
    cases j with
    | zero => simp at ho; subst ho; exact h.1
    | succ j =>
      have := chainOK_at h.2 j o (by simpa using ho)
      have e : i + (j + 1) = i + 1 + j := by omega
      rw [e]; exact this
theorem sufOK_chain {l : List Oper} {m : Nat} (h : sufOK l m = true) (i : Nat) (o : Oper) (him : m < i) (ho : l[i]? = some o) : dep o (i - 1) = true := by
  have hil : i < l.length := (List.getElem?_eq_some_iff.1 ho).1
  simp only [sufOK, Bool.or_eq_true, Bool.and_eq_true] at h
  rcases h with h | ⟨_, h⟩
  · have := Nat.eq_of_beq_eq_true h; omega
  · have := chainOK_at h (i - (m + 1)) o (by rw [List.getElem?_drop, Nat.add_sub_cancel' (by omega)]; exact ho)
    have e : m + (i - (m + 1)) = i - 1 := by omega
    rwa [e] at this
theorem sufOK_to {l : List Oper} {m : Nat} (h : sufOK l m = true) (hm : m < l.length) (j : Nat) (hj : j < m) : ∃ k o, j < k ∧ k ≤ m ∧ l[k]? = some o ∧ dep o j = true := by
  simp only [sufOK, Bool.or_eq_true, Bool.and_eq_true] at h
  rcases h with h | ⟨h, _⟩
  · have := Nat.eq_of_beq_eq_true h; omega
  · have h2 := toMs_of h hj
    unfold toM at h2
    obtain ⟨o, ho, hd⟩ := List.any_eq_true.1 h2
    obtain ⟨q, hq⟩ := List.mem_iff_getElem?.1 ho
    rw [List.getElem?_drop] at hq
    have hlt : j + 1 + q < m + 1 := by
      have := (List.getElem?_eq_some_iff.1 hq).1
      simp at this; omega
    rw [List.getElem?_take_of_lt hlt] at hq
    exact ⟨j + 1 + q, o, by omega, by omega, hq, hd⟩
theorem Za6 : ∀ {l : List Oper} {i : Nat}, edgesOK i l = true → ∀ j o, l[j]? = some o → ∀ e ∈ o.after, Region.binds .any e = true → e.on < i + j
  | [], i, h, j, o, ho => by simp at ho
  | a :: l, i, h, j, o, ho => by
    simp only [edgesOK, Bool.and_eq_true] at h
    cases j with
    | zero =>
      simp at ho; subst ho
      intro e he hb
      have := (List.all_eq_true.1 h.1) e (Array.mem_toList_iff.2 he)
      rw [hb] at this
      simpa [Nat.blt_eq] using this
    | succ j =>
      intro e he hb
      have := Za6 h.2 j o (by simpa using ho) e he hb
      omega
theorem dstsOK_at {E : Env} : ∀ {l : List Oper} {seen : List Nat}, dstsOK E seen l = true → ∀ (j : Nat) (o : Oper), l[j]? = some o → ∃ d, o.dst = some d ∧ lk E d = none ∧ (∀ x ∈ seen, x ≠ d) ∧ ∀ (j' : Nat) (o' : Oper), j' ≠ j → l[j']? = some o' → o'.dst ≠ some d
  | [], seen, h, j, o, ho => by simp at ho
  | a :: l, seen, h, j, o, ho => by
    simp only [dstsOK] at h
    cases hd : a.dst with
    | none => rw [hd] at h; cases h
    | some d =>
      rw [hd] at h
      simp only [Bool.and_eq_true, Bool.not_eq_true', Option.isNone_iff_eq_none] at h
      obtain ⟨⟨h1, h2⟩, h3⟩ := h
      have hs : ∀ x ∈ seen, x ≠ d := fun x hx hc => by
        subst hc
        have : seen.any (Nat.beq x) = true := List.any_eq_true.2 ⟨x, hx, Nat.beq_refl x⟩
        rw [this] at h1; cases h1
      cases j with
      | zero =>
        simp at ho; subst ho
        refine ⟨d, hd, h2, hs, fun j' o' hj ho' => ?_⟩
        cases j' with
        | zero => exact absurd rfl hj
        | succ j' =>
          obtain ⟨d', e1, _, e3, _⟩ := dstsOK_at h3 j' o' (by simpa using ho')
          rw [e1]
          intro hc; cases hc
          exact e3 _ List.mem_cons_self rfl
      | succ j =>
        obtain ⟨d', e1, e2, e3, e4⟩ := dstsOK_at h3 j o (by simpa using ho)
        refine ⟨d', e1, e2, fun x hx => e3 x (by simp [hx]), fun j' o' hj ho' => ?_⟩
        cases j' with
        | zero =>
          simp at ho'; subst ho'
          rw [hd]
          intro hc; cases hc
          exact e3 _ List.mem_cons_self rfl
        | succ j' => exact e4 j' o' (fun q => hj (by rw [q])) (by simpa using ho')
def unl : List Bool → Nat
  | [] => 0
  | b :: l => (bif b then 0 else 1) + unl l
theorem unl_pos : ∀ (l : List Bool) (i : Nat), l[i]? = some false → 0 < unl l
  | [], i, h => by simp at h
  | b :: l, 0, h => by simp at h; subst h; simp [unl]; omega
  | b :: l, i + 1, h => by have := unl_pos l i (by simpa using h); simp only [unl]; omega
theorem unl_set : ∀ (l : List Bool) (i : Nat), l[i]? = some false → unl (l.set i true) + 1 = unl l
  | [], i, h => by simp at h
  | b :: l, 0, h => by simp at h; subst h; simp [unl]; omega
  | b :: l, i + 1, h => by have := unl_set l i (by simpa using h); simp only [List.set_cons_succ, unl]; omega
section
variable {P : Program} {n : NS} {ops : Array Oper} {Q : Exit → Act → World → Prop} {E : Env} {w : World} {h : Hp}
def Front1 (P : Program) (n : NS) (ops : Array Oper) (Q : Exit → Act → World → Prop) (Φ : Nat → Value → World → Hp → Prop) (i : Nat) (o : Oper) (a : Act) (w1 : World) (h1 : Hp) : Prop :=
  (Region.wanted o (yielded ops a.tmps) = true ∧ o.wp P a w1 (fun a' w2 => ∃ v h2, a' = a.put o.dst v ∧ Stp [] w1 h1 w2 h2 ∧ Φ i v w2 h2) Q) ∨
  (Region.wanted o (yielded ops a.tmps) = false ∧ Φ i undef w1 h1)
def Front (P : Program) (n : NS) (ops : Array Oper) (Q : Exit → Act → World → Prop) (E : Env) (w : World) (h : Hp) (Φ : Nat → Value → World → Hp → Prop) (i : Nat) (o : Oper) : Prop :=
  ∀ a w1 h1, Stp [] w h w1 h1 → At n E a → (∀ j d, dep o j = true → (ops[j]?).bind (·.dst) = some d → Φ j (a.tmps.getD d undef) w1 h1) → Front1 P n ops Q Φ i o a w1 h1
def Fronts (P : Program) (n : NS) (ops : Array Oper) (Q : Exit → Act → World → Prop) (E : Env) (w : World) (h : Hp) (Φ : Nat → Value → World → Hp → Prop) : Nat → List Oper → Prop
  | _, [] => True
  | i, o :: l => Front P n ops Q E w h Φ i o ∧ Fronts P n ops Q E w h Φ (i + 1) l
theorem Fronts_at {Φ : Nat → Value → World → Hp → Prop} : ∀ {l : List Oper} {i : Nat}, Fronts P n ops Q E w h Φ i l → ∀ j o, l[j]? = some o → Front P n ops Q E w h Φ (i + j) o
  | [], i, _, j, o, ho => by simp at ho
  | a :: l, i, hf, j, o, ho => by
    cases j with
    | zero => simp at ho; subst ho; exact hf.1
    | succ j =>
      have := Fronts_at hf.2 j o (by simpa using ho)
      have e : i + (j + 1) = i + 1 + j := by omega
      rw [e]; exact this
theorem wpAny_inv {I : Array Bool → Act → World → Prop} (hsz : ∀ L a w, I L a w → L.size = ops.size)
    (hstep : ∀ L a w i, I L a w → i ∈ Region.ready .any ops L → wpOp P ops Q i (fun a' w' => I (L.setIfInBounds i true) a' w') a w)
    (hend : ∀ L a w, I L a w → Region.ready .any ops L = [] → Q .normal a w) : ∀ (fuel : Nat) (L : Array Bool) (a : Act) (w : World), unl L.toList ≤ fuel → I L a w → wpAny P .any ops Q fuel L a w
  | 0, L, a, w, hc, hi => by
    have hr : Region.ready .any ops L = [] := by
      apply List.eq_nil_iff_forall_not_mem.2
      intro j hj
      have hf := (mem_ready.1 hj).1
      have hlt : j < L.size := by
        obtain ⟨_, o, ho, _⟩ := mem_ready.1 hj
        rw [hsz L a w hi]; exact (Array.getElem?_eq_some_iff.1 ho).1
      have e : L.toList[j]? = some false := by
        rw [Array.getElem?_toList, Array.getElem?_eq_getElem hlt]
        simpa [Array.getD_eq_getD_getElem?, Array.getElem?_eq_getElem hlt] using hf
      have := unl_pos _ _ e
      omega
    exact ⟨hr, hend L a w hi hr⟩
  | fuel + 1, L, a, w, hc, hi => by
    refine ⟨hend L a w hi, fun i hr => ?_⟩
    have hlt : i < L.size := by
      obtain ⟨_, o, ho, _⟩ := mem_ready.1 hr
      rw [hsz L a w hi]; exact (Array.getElem?_eq_some_iff.1 ho).1
    have hf : L[i] = false := by simpa [Array.getD_eq_getD_getElem?, Array.getElem?_eq_getElem hlt] using (mem_ready.1 hr).1
    have hcount : unl (L.setIfInBounds i true).toList ≤ fuel := by
      have e : (L.setIfInBounds i true).toList = L.toList.set i true := by simp
      have h1 := unl_set L.toList i (by rw [Array.getElem?_toList, Array.getElem?_eq_getElem hlt, hf])
      rw [e]
      omega
    have := hstep L a w i hi hr
    unfold wpOp at this ⊢
    split
    · rename_i ho; simp only [ho] at this; exact wpAny_inv hsz hstep hend fuel _ _ _ hcount this
    · rename_i o ho
      simp only [ho] at this
      split
      · rename_i hw
        simp only [hw, if_true] at this
        exact this.imp (Oper.wp_mono (fun a' w' hI => wpAny_inv hsz hstep hend fuel _ _ _ hcount hI)) id
      · rename_i hw
        simp only [hw] at this
        exact wpAny_inv hsz hstep hend fuel _ _ _ hcount this
def flags (size k : Nat) : Array Bool := ((List.range size).map fun j => Nat.blt j k).toArray
theorem Zdw {size k j : Nat} (hj : j < size) (d : Bool) : (flags size k).getD j d = Nat.blt j k := by
  simp [flags, Array.getD_eq_getD_getElem?, List.getElem?_range hj]
theorem blt_t {a b : Nat} : Nat.blt a b = true ↔ a < b := by rw [Nat.blt_eq]
theorem dep_of {o : Oper} {j : Nat} (h : dep o j = true) : ∃ e ∈ o.after, e.on = j ∧ Region.binds .any e = true := by
  unfold dep at h
  obtain ⟨e, he, hp⟩ := List.any_eq_true.1 h
  simp only [Bool.and_eq_true] at hp
  exact ⟨e, Array.mem_toList_iff.1 he, Nat.eq_of_beq_eq_true hp.1, hp.2⟩
theorem flags_set {size k : Nat} (hk : k < size) : (flags size k).setIfInBounds k true = flags size (k + 1) := by
  unfold flags
  apply Array.ext
  · simp
  · intro j h1 h2
    have hj : j < size := by simpa using h2
    rw [Array.getElem_setIfInBounds (by simpa using hj)]
    by_cases e : k = j
    · subst e; simp [Nat.blt_eq]
    · rw [if_neg e]
      simp only [List.getElem_toArray, List.getElem_map, List.getElem_range]
      rw [Bool.eq_iff_iff, Nat.blt_eq, Nat.blt_eq]
      omega
def ltOK (n : Nat) : List Oper → Bool
  | [] => true
  | o :: l => (match o.dst with | some d => Nat.blt d n | none => true) && ltOK n l
theorem ltOK_at {n : Nat} : ∀ {l : List Oper}, ltOK n l = true → ∀ (j : Nat) (o : Oper) (d : Nat), l[j]? = some o → o.dst = some d → d < n
  | [], _, j, o, d, ho, _ => by simp at ho
  | a :: l, h, 0, o, d, ho, hd => by
    simp at ho; subst ho
    simp only [ltOK, hd, Bool.and_eq_true, Nat.blt_eq] at h
    exact h.1
  | a :: l, h, j + 1, o, d, ho, hd => by
    simp only [ltOK, Bool.and_eq_true] at h
    exact ltOK_at h.2 j o d (by simpa using ho) hd
theorem Z2x {id m : Nat} {l : List Oper} (E0 : Env) (ks : List Nat) (hE : sel ks E = E0) (Φ : Nat → Value → World → Hp → Prop) (hm : P.follows .mixedOrders = true) (hs : Sub h w)
    (he : edgesOK 0 l = true) (hsuf : sufOK l m = true) (hd : dstsOK E0 [] (l.take m) = true) (hml : Nat.ble m l.length = true) (hlt : ltOK n (l.take m) = true)
    (stab : ∀ i v w1 h1 w2 h2, Φ i v w1 h1 → Stp [] w1 h1 w2 h2 → Φ i v w2 h2)
    (front : Fronts P n l.toArray Q E0 w h Φ 0 (l.take m))
    (k : ∀ a w1 h1, Stp [] w h w1 h1 → At n E0 a → (∀ i d, i < m → (l[i]?).bind (·.dst) = some d → Φ i (a.tmps.getD d undef) w1 h1) → wpList P l.toArray Q (l.drop m) a w1) : WC P n (.region id l.toArray true) Q E w := by
  intro a0 ha0'
  have ha0 : At n E0 a0 := by rw [← hE]; exact ha0'.sub (fun t v ht => lk_sel E t v ks ht)
  have hml' := Nat.le_of_ble_eq_true hml
  have hlts : ∀ (i : Nat) (o : Oper) (d : Nat), i < m → l[i]? = some o → o.dst = some d → d < n := fun i o d hi ho hd => ltOK_at hlt i o d (by rw [List.getElem?_take_of_lt hi]; exact ho) hd
  refine wp_region_any hm ?_
  -- what holds at each moment
  let I : Array Bool → Act → World → Prop := fun L a w1 => L.size = l.length ∧
    ((∃ k, m ≤ k ∧ k ≤ l.length ∧ L = flags l.length k ∧ wpList P l.toArray Q (l.drop k) a w1) ∨
     ((∃ j, j < m ∧ L.getD j true = false) ∧ (∀ j, m ≤ j → j < l.length → L.getD j true = false) ∧ (∀ i o j, i < m → L.getD i false = true → l[i]? = some o → dep o j = true → L.getD j false = true) ∧ ∃ h1, Stp [] w h w1 h1 ∧ At n E0 a ∧ ∀ i d, i < m → L.getD i false = true → (l[i]?).bind (·.dst) = some d → Φ i (a.tmps.getD d undef) w1 h1))
  have fin : ∀ L a w1 h1, L.size = l.length → (∀ j, m ≤ j → j < l.length → L.getD j true = false) → (∀ i o j, i < m → L.getD i false = true → l[i]? = some o → dep o j = true → L.getD j false = true) → Stp [] w h w1 h1 → At n E0 a → (∀ i d, i < m → L.getD i false = true → (l[i]?).bind (·.dst) = some d → Φ i (a.tmps.getD d undef) w1 h1) → I L a w1 := by
    intro L a w1 h1 hsz hback hcl s hat hΦ
    refine ⟨hsz, ?_⟩
    by_cases hall : ∀ j, j < m → L.getD j true = true
    · refine .inl ⟨m, Nat.le_refl _, hml', ?_, k a w1 h1 s hat (fun i d hi hdst => hΦ i d hi ?_ hdst)⟩
      · apply Array.ext
        · simp [flags, hsz]
        · intro j g1 g2
          have hj : j < l.length := by rw [← hsz]; exact g1
          have e1 : L.getD j true = L[j] := by simp [Array.getD_eq_getD_getElem?, Array.getElem?_eq_getElem g1]
          have e2 : (flags l.length m)[j] = Nat.blt j m := by simp [flags]
          rw [← e1, e2]
          by_cases hjm : j < m
          · rw [hall j hjm]; exact (blt_t.2 hjm).symm
          · rw [hback j (by omega) hj]
            symm
            rw [← Bool.not_eq_true, Nat.blt_eq]; exact hjm
      · have := hall i hi
        have hi2 : i < L.size := by omega
        simpa [Array.getD_eq_getD_getElem?, Array.getElem?_eq_getElem hi2] using this
    · obtain ⟨j, hj⟩ := Classical.not_forall.1 hall
      obtain ⟨hjm, hjf⟩ := Classical.not_imp.1 hj
      exact .inr ⟨⟨j, hjm, by simpa using hjf⟩, hback, hcl, h1, s, hat, hΦ⟩
  refine wpAny_inv (I := I) (fun L a w hI => by simpa using hI.1) ?_ ?_ _ _ _ _ ?_ ?_
  · -- one step
    intro L a w1 i hI hr
    obtain ⟨hun, o, ho, hedge⟩ := mem_ready.1 hr
    have hol : l[i]? = some o := by simpa using ho
    have hil : i < l.length := (List.getElem?_eq_some_iff.1 hol).1
    obtain ⟨hsz, ⟨kk, hk1, hk2, rfl, hwp⟩ | ⟨⟨j0, hj0, hj0f⟩, hback, hcl, h1, s, hat, hΦ⟩⟩ := hI
    · -- behind: the next one is operation kk
      rw [Zdw hil] at hun
      have hki : kk ≤ i := by
        rcases Nat.lt_or_ge i kk with q | q
        · rw [blt_t.2 q] at hun; cases hun
        · exact q
      have hik : i = kk := by
        rcases Nat.lt_or_ge kk i with q | q
        · exfalso
          have h3 := sufOK_chain hsuf i o (by omega) hol
          obtain ⟨e, he1, he3, he2⟩ := dep_of h3
          have h4 := hedge e he1 he2
          rw [he3, Zdw (by omega), Nat.blt_eq] at h4
          omega
        · omega
      subst hik
      have hdrop : l.drop i = o :: l.drop (i + 1) := by
        rw [List.drop_eq_getElem_cons hil]
        congr 1
        exact (List.getElem?_eq_some_iff.1 hol).2
      rw [hdrop] at hwp
      unfold wpOp
      simp only [ho]
      unfold wpList at hwp
      have conv : ∀ a' w', wpList P l.toArray Q (l.drop (i + 1)) a' w' → I ((flags l.length i).setIfInBounds i true) a' w' := fun a' w' hh =>
        ⟨by simp [flags], .inl ⟨i + 1, by omega, hil, flags_set hil, hh⟩⟩
      split
      · rename_i hw
        rw [if_pos hw] at hwp
        exact hwp.imp (Oper.wp_mono conv) (fun x => x)
      · rename_i hw
        rw [if_neg hw] at hwp
        exact conv _ _ hwp
    · -- in front
      have him : i < m := by
        rcases Nat.lt_or_ge i m with q | q
        · exact q
        · exfalso
          have contra : ∀ j, j < l.length → L.getD j true = false → L.getD j false = true → False := by
            intro j hj hf ht
            have hlt : j < L.size := by omega
            simp [Array.getD_eq_getD_getElem?, Array.getElem?_eq_getElem hlt] at hf ht
            rw [ht] at hf; cases hf
          rcases Nat.lt_or_ge m i with q2 | q2
          · have h3 := sufOK_chain hsuf i o q2 hol
            obtain ⟨e, he1, he3, he2⟩ := dep_of h3
            have h4 := hedge e he1 he2
            rw [he3] at h4
            exact contra (i - 1) (by omega) (hback (i - 1) (by omega) (by omega)) h4
          · obtain rfl : i = m := by omega
            have all : ∀ r j, i ≤ j + r → j < i → L.getD j false = true := by
              intro r
              induction r with
              | zero => intro j h1 h2; omega
              | succ r ih =>
                intro j h1 h2
                obtain ⟨k, ok, hk1, hk2, hk3, hk4⟩ := sufOK_to hsuf hil j h2
                by_cases hki : k = i
                · subst hki
                  rw [hol] at hk3; cases hk3
                  obtain ⟨e, he1, he3, he2⟩ := dep_of hk4
                  have h4 := hedge e he1 he2
                  rw [he3] at h4; exact h4
                · exact hcl k ok j (by omega) (ih k (by omega) (by omega)) hk3 hk4
            exact contra j0 (by omega) hj0f (all i j0 (by omega) hj0)
      have hot : (l.take m)[i]? = some o := by rw [List.getElem?_take_of_lt him]; exact hol
      obtain ⟨d, hdst, hlk, _, hdist⟩ := dstsOK_at hd i o hot
      have hfr := Fronts_at front i o hot
      rw [Nat.zero_add] at hfr
      have hdeps : ∀ j d', dep o j = true → (l.toArray[j]?).bind (·.dst) = some d' → Φ j (a.tmps.getD d' undef) w1 h1 := by
        intro j d' hj hd'
        obtain ⟨e, he1, he3, he2⟩ := dep_of hj
        have h4 := hedge e he1 he2
        have h5 := Za6 he i o hol e he1 he2
        rw [he3] at h4 h5
        exact hΦ j d' (by omega) h4 (by simpa using hd')
      have next : ∀ v w2 h2, Stp [] w1 h1 w2 h2 → Φ i v w2 h2 → I (L.setIfInBounds i true) (a.put o.dst v) w2 := by
        intro v w2 h2 s2 hv
        have hdn : At n E0 (a.put o.dst v) := by
          rw [hdst]
          refine ⟨hat.defers, by simp [Act.put, hat.size], fun t u ht => ?_⟩
          have hne : d ≠ t := fun q => by subst q; rw [hlk] at ht; cases ht
          have := hat.slot t u ht
          simp only [Act.put, Array.getD_eq_getD_getElem?, Array.getElem?_setIfInBounds] at this ⊢
          rw [if_neg hne]; exact this
        refine fin _ _ w2 h2 (by simp [hsz]) (fun j hj1 hj2 => ?_) (fun i' o' j' hi' hL' ho' hd' => ?_) (s.trans0 s2) hdn (fun j d' hj hL hd' => ?_)
        · rw [getD_set_ne true (by omega)]; exact hback j hj1 hj2
        · have hil2 : i < L.size := by omega
          have set_t : ∀ q, L.getD q false = true → (L.setIfInBounds i true).getD q false = true := by
            intro q hq
            by_cases hqi : i = q
            · subst hqi; simp [Array.getD_eq_getD_getElem?, Array.getElem?_setIfInBounds, hil2]
            · rw [getD_set_ne false hqi]; exact hq
          apply set_t
          by_cases hii : i' = i
          · subst hii
            rw [hol] at ho'; cases ho'
            obtain ⟨e, he1, he3, he2⟩ := dep_of hd'
            have h4 := hedge e he1 he2
            rw [he3] at h4; exact h4
          · rw [getD_set_ne false (Ne.symm hii)] at hL'
            exact hcl i' o' j' hi' hL' ho' hd'
        · by_cases hji : j = i
          · subst hji
            have e1 : d' = d := by rw [hol] at hd'; simp [hdst] at hd'; exact hd'.symm
            subst e1
            rw [hdst]
            by_cases hdlt : d' < n
            · have : ((a.put (some d') v).tmps.getD d' undef) = v := by simp [Act.put, Array.getD_eq_getD_getElem?, Array.getElem?_setIfInBounds, hat.size, hdlt]
              rw [this]; exact hv
            · exact absurd (hlts _ o d' him hol hdst) hdlt
          · have hL' : L.getD j false = true := by
              rw [getD_set_ne false (Ne.symm hji)] at hL; exact hL
            have hp := stab j _ w1 h1 w2 h2 (hΦ j d' hj hL' hd') s2
            have hne : d ≠ d' := fun q => by
              subst q
              obtain ⟨o', ho', hd2⟩ := Option.bind_eq_some_iff.1 hd'
              exact hdist j o' hji (by rw [List.getElem?_take_of_lt hj]; exact ho') hd2
            rw [hdst]
            have : ((a.put (some d) v).tmps.getD d' undef) = a.tmps.getD d' undef := by
              simp only [Act.put, Array.getD_eq_getD_getElem?, Array.getElem?_setIfInBounds]
              rw [if_neg hne]
            rw [this]; exact hp
      unfold wpOp
      simp only [ho]
      rcases hfr a w1 h1 s hat hdeps with ⟨hw, hwp⟩ | ⟨hw, hu⟩
      · simp only [hw, if_true]
        refine .inl (Oper.wp_mono ?_ hwp)
        rintro a' w2 ⟨v, h2, rfl, s2, hv⟩
        exact next v w2 h2 s2 hv
      · simp only [hw, Bool.false_eq_true, if_false]
        exact next undef w1 h1 (Stp.refl s.sub []) hu
  · -- the end
    intro L a w1 hI hr
    obtain ⟨hsz, ⟨kk, hk1, hk2, rfl, hwp⟩ | ⟨⟨j0, hj0, hj0f⟩, hback, hcl, h1, s, hat, hΦ⟩⟩ := hI
    · have : kk = l.length := by
        rcases Nat.lt_or_ge kk l.length with q | q
        · exfalso
          have : kk ∈ Region.ready .any l.toArray (flags l.length kk) := by
            refine mem_ready.2 ⟨by rw [Zdw q, ← Bool.not_eq_true, Nat.blt_eq]; omega, l[kk], by simp [q], fun e he1 hb => ?_⟩
            have := Za6 he kk _ (List.getElem?_eq_getElem q) e he1 hb
            rw [Zdw (by omega)]
            exact blt_t.2 (by omega)
          rw [hr] at this; cases this
        · omega
      subst this
      rw [List.drop_length] at hwp
      exact hwp
    · -- something in front is still to come: the first of it is ready
      exfalso
      have key : ∀ N j, j ≤ N → j < m → L.getD j true = false → False := by
        intro N
        induction N with
        | zero =>
          intro j hj hjm hjf
          obtain rfl : j = 0 := by omega
          have : 0 ∈ Region.ready .any l.toArray L := mem_ready.2 ⟨hjf, l[0]'(by omega), by simp, fun e he1 hb => by
            have := Za6 he 0 _ (List.getElem?_eq_getElem (by omega)) e he1 hb
            omega⟩
          rw [hr] at this; cases this
        | succ N ih =>
          intro j hj hjm hjf
          have hjl : j < l.length := by omega
          have : j ∈ Region.ready .any l.toArray L := mem_ready.2 ⟨hjf, l[j], by simp [hjl], fun e he1 hb => by
            have h5 := Za6 he j _ (List.getElem?_eq_getElem hjl) e he1 hb
            cases hq : L.getD e.on false with
            | true => rfl
            | false =>
              exfalso
              have hlt : e.on < L.size := by omega
              exact ih e.on (by omega) (by omega) (by simpa [Array.getD_eq_getD_getElem?, Array.getElem?_eq_getElem hlt] using hq)⟩
          rw [hr] at this; cases this
      exact key j0 j0 (Nat.le_refl _) hj0 hj0f
  · have : ∀ s : Nat, unl (List.replicate s false) = s := by
      intro s
      induction s with
      | zero => rfl
      | succ s ih => simp [List.replicate_succ, unl, ih]; omega
    simp [this]
  · have s0 : Stp [] w h { w with drawn := w.drawn + 1 } h := Stp.drew hs _
    have hf : ∀ i, (Array.replicate l.toArray.size false).getD i false = false := by
      intro i
      rw [Array.getD_eq_getD_getElem?]
      cases q : (Array.replicate l.toArray.size false)[i]? with
      | none => rfl
      | some b =>
        have := Array.getElem?_eq_some_iff.1 q
        obtain ⟨q1, q2⟩ := this
        simp at q2
        simp [q2]
    refine fin _ _ _ h (by simp) (fun j hj1 hj2 => by simp [Array.getD_eq_getD_getElem?, hj2]) (fun i' o' j' hi' hL' => by rw [hf] at hL'; cases hL') s0 ha0 (fun i d hi hL => by rw [hf] at hL; cases hL)
end
end Go.Proofs.YtkodnhngllfemaaGreatDoor
