import Derived.Test.YtkodnhngllfemaaGreatDoorB13
import Derived.Great.FillDense
set_option linter.unusedVariables false
set_option linter.unusedSimpArgs false
namespace Go.Proofs.YtkodnhngllfemaaGreatDoor
open Go
def isF (fl : List Nat) (i : Nat) : Bool := fl.any (Nat.beq i)
section
variable {P : Program} {n : NS} {ops : Array Oper} {Q : Exit → Act → World → Prop} {E : Env} {w : World} {h : Hp}
def Float1 (P : Program) (ops : Array Oper) (Φ : Nat → Value → World → Hp → Prop) (i : Nat) (o : Oper) (a : Act) (w1 : World) (h1 : Hp) (w' : World) : Prop :=
  ∃ v, Region.wanted o (yielded ops a.tmps) = true ∧ (execOp a.eval o).run P w' = .ok (.value v) w' ∧ Φ i v w1 h1
def FrontF (P : Program) (n : NS) (ops : Array Oper) (E : Env) (w : World) (h : Hp) (Φ : Nat → Value → World → Hp → Prop) (i : Nat) (o : Oper) : Prop :=
  ∀ a w1 h1 w', Sub h1 w' → Stp [] w h w1 h1 → At n E a → (∀ j d, dep o j = true → (ops[j]?).bind (·.dst) = some d → Φ j (a.tmps.getD d undef) w1 h1) → Float1 P ops Φ i o a w1 h1 w'
def FrontA1 (P : Program) (ops : Array Oper) (Φ : Nat → Value → World → Hp → Prop) (i : Nat) (o : Oper) (a : Act) (w1 : World) (h1 : Hp) : Prop :=
  ∃ v w2 h2, Region.wanted o (yielded ops a.tmps) = true ∧ (execOp a.eval o).run P w1 = .ok (.value v) w2 ∧ Stp [] w1 h1 w2 h2 ∧ Φ i v w2 h2 ∧ ∃ b, v = .pointer (some ⟨b, 0, none⟩) ∧ w1.heap.size ≤ b ∧ b < w2.heap.size
def FrontA (P : Program) (n : NS) (ops : Array Oper) (Q : Exit → Act → World → Prop) (E : Env) (w : World) (h : Hp) (Φ : Nat → Value → World → Hp → Prop) (i : Nat) (o : Oper) : Prop :=
  ∀ a w1 h1, Stp [] w h w1 h1 → At n E a → (∀ j d, dep o j = true → (ops[j]?).bind (·.dst) = some d → Φ j (a.tmps.getD d undef) w1 h1) → FrontA1 P ops Φ i o a w1 h1
def isAl (al : List Nat) (i : Nat) : Bool := al.any (Nat.beq i)
def FrontsF (P : Program) (n : NS) (ops : Array Oper) (Q : Exit → Act → World → Prop) (E : Env) (w : World) (h : Hp) (Φ : Nat → Value → World → Hp → Prop) (fl al : List Nat) : Nat → List Oper → Prop
  | _, [] => True
  | i, o :: l => (if isF fl i = true then FrontF P n ops E w h Φ i o else if isAl al i = true then FrontA P n ops Q E w h Φ i o else Front P n ops Q E w h Φ i o) ∧ FrontsF P n ops Q E w h Φ fl al (i + 1) l
theorem FrontsF.nil {Φ : Nat → Value → World → Hp → Prop} {fl al : List Nat} {i : Nat} : FrontsF P n ops Q E w h Φ fl al i [] := trivial
theorem FrontsF.front {Φ : Nat → Value → World → Hp → Prop} {fl al : List Nat} {i : Nat} {o : Oper} {l : List Oper} (hf : (isF fl i || isAl al i) = false) (a : Front P n ops Q E w h Φ i o) (t : FrontsF P n ops Q E w h Φ fl al (i + 1) l) : FrontsF P n ops Q E w h Φ fl al i (o :: l) := by
  rw [Bool.or_eq_false_iff] at hf
  exact ⟨by rw [if_neg (by rw [hf.1]; decide), if_neg (by rw [hf.2]; decide)]; exact a, t⟩
theorem FrontsF.al {Φ : Nat → Value → World → Hp → Prop} {fl al : List Nat} {i : Nat} {o : Oper} {l : List Oper} (hf : (!isF fl i && isAl al i) = true) (a : FrontA P n ops Q E w h Φ i o) (t : FrontsF P n ops Q E w h Φ fl al (i + 1) l) : FrontsF P n ops Q E w h Φ fl al i (o :: l) := by
  rw [Bool.and_eq_true, Bool.not_eq_true'] at hf
  exact ⟨by rw [if_neg (by rw [hf.1]; decide), if_pos hf.2]; exact a, t⟩
theorem Zci {z : Nat} : ∀ u ∈ ([] : List Value), u.cells.size = z := by simp
theorem Z0c {z : Nat} {a : Value} {l : List Value} (h : a.cells.size = z) (hl : ∀ u ∈ l, u.cells.size = z) : ∀ u ∈ a :: l, u.cells.size = z := by
  intro u hu; rcases List.mem_cons.1 hu with rfl | hu
  · exact h
  · exact hl u hu
theorem Z10 {dd : Nat} {ty : TypeId} {ps : String} {af : Array Edge} {g : Option (Nat × Bool)} {rest : List Oper} {t e z : TypeId} {len : Nat} {parts : List (Nat × Operand)} {us cs : List Value} {zv : Value} (hn : Nat.blt dd n = true) (hg : Z9x ops E ⟨some dd, .buildSlice t len parts.toArray, ty, ps, af, g⟩ = some true)
    (hv : parts.map (fun p => (ev E p.2).map (p.1, ·)) = ((us.zipIdx 0).map fun x => (x.2, x.1)).map some) (ht : P.underlying t = some (.slice e)) (hz : Zhq P e = some z) (hze : tZero P e = some zv) (hl : us.length = len) (hsz : ∀ u ∈ us, u.cells.size = z) (hcs : us.flatMap (fun v => v.cells.toList) = cs) (hpos : Nat.ble 1 (len * z) = true) (hlen : Nat.ble (len * z) 1000 = true) (hs : Sub h w)
    (k : ∀ w1 h1 b, b = w.heap.size → Stp [] w h w1 h1 → w1.heap[b]? = some (.cells cs.toArray e (0, 0)) → (∀ o, h1 b o = cs[o]?) → WL P n ops Q rest ((dd, .slice (some ⟨b, 0, none⟩) len len) :: E) w1) :
    WL P n ops Q (⟨some dd, .buildSlice t len parts.toArray, ty, ps, af, g⟩ :: rest) E w := by
  have hpos' := Nat.le_of_ble_eq_true hpos
  have hz0 : 0 < z := by
    rcases Nat.eq_zero_or_pos z with q | q
    · subst q; simp at hpos'
    · exact q
  refine WL.buildSlice (zs := []) hn hg hv ht hz hze hpos hlen ?_ hs k
  rw [← hcs]
  exact Go.Great.fill_whole hz0 us _ hsz (by simp [hl])
theorem RS.cells1 {α : Type} [Rp α] {v : Value} {xs : List α} (r : RS h v xs) : v.cells = #[v] := by
  obtain ⟨A, c, rfl, _⟩ := r; rfl
theorem Zh0 {b o b' o' : Nat} (h : (some (⟨b, o, none⟩ : Addr)) = some ⟨b', o', none⟩) : b = b' ∧ o = o' := by cases h; exact ⟨rfl, rfl⟩
theorem RS.cellsL {α : Type} [Rp α] {v : Value} {xs : List α} (r : RS h v xs) : v.cells.toList = [v] := by rw [r.cells1]
def LR {α : Type} [Rp α] (h : Hp) : List α → List (List Value) → Prop
  | [], [] => True
  | x :: xs, c :: cs => Rp.R h x c ∧ LR h xs cs
  | _, _ => False
theorem LR.at_ {α : Type} [Rp α] {h : Hp} : ∀ {xs : List α} {css : List (List Value)}, LR h xs css → xs.length = css.length ∧ ∀ (j : Nat) x c, xs[j]? = some x → css[j]? = some c → Rp.R h x c
  | [], [], _ => ⟨rfl, fun j x c hx => by simp at hx⟩
  | [], _ :: _, hl => hl.elim
  | _ :: _, [], hl => hl.elim
  | x :: xs, c :: cs, hl => by
    obtain ⟨h1, h2⟩ := LR.at_ hl.2
    refine ⟨by simp [h1], fun j y d hy hd => ?_⟩
    cases j with
    | zero => simp at hy hd; subst hy; subst hd; exact hl.1
    | succ j => exact h2 j y d (by simpa using hy) (by simpa using hd)
theorem RS.litL {α : Type} [Rp α] {b k : Nat} {cells : List Value} (xs : List α) (css : List (List Value)) (hk : xs.length = k) (hf : css.flatten = cells) (hcell : ∀ o, h b o = cells[o]?) (lr : LR h xs css) : RS h (.slice (some ⟨b, 0, none⟩) k k) xs :=
  RS.lit xs css hk hcell (by rw [← lr.at_.1, hk]) hf lr.at_.2
def lkOK (E1 : Env) (l : List Oper) (fl : List Nat) : Bool := fl.all fun f => match (l[f]?).bind (·.dst) with | some d => (lk E1 d).isNone | none => true
theorem lkOK_of {E1 : Env} {l : List Oper} {fl : List Nat} (h : lkOK E1 l fl = true) (i : Nat) (d : Tmp) (hf : isF fl i = true) (hd : (l[i]?).bind (·.dst) = some d) : lk E1 d = none := by
  obtain ⟨x, hx, he⟩ := List.any_eq_true.1 hf
  have := Nat.eq_of_beq_eq_true he
  subst this
  have h1 := List.all_eq_true.1 h i hx
  rw [hd] at h1
  simpa using h1
theorem F.store {m : Nat} {l : List Oper} {fl : List Nat} {G : Act → Prop} {a : Act} {w1 : World} {h1 : Hp} {t ty : TypeId} {ps : String} {af : Array Edge} {g : Option (Nat × Bool)} {x y : Operand} {b o T : Nat} {v : Value} {vs cs ds : List Value} (E1 : Env) (hat : At n E1 a) (hl : lkOK E1 l fl = true)
    (hx : ev E1 x = some (.pointer (some ⟨b, o, none⟩))) (hy : ev E1 y = some v)
    (hvs : v.cells.toList = vs) (hsz : Zhq P t = some vs.length) (hone : ∀ u ∈ vs, u.oneCell' = true) (hb : OB w1 h1 b T cs) (hs : Sub h1 w1) (hlen : o + vs.length ≤ cs.length) (hd : cs.take o ++ vs ++ cs.drop (o + vs.length) = ds)
    (k : ∀ w2, Stp [b] w1 h1 w2 h1 → OB w2 h1 b T ds → ∀ a', At n E1 a' → G a' → wpList P l.toArray Q (l.drop (m + 1)) a' w2) :
    ∃ w2 E1, At n E1 a ∧ OU P ⟨none, .store t x y, ty, ps, af, g⟩ E1 w1 w2 ∧ Sub h1 w2 ∧ (∀ i d, i < m → isF fl i = true → (l[i]?).bind (·.dst) = some d → lk E1 d = none) ∧
        ∀ a', At n E1 a' → G a' → wpList P l.toArray Q (l.drop (m + 1)) a' w2 := by
  subst hvs
  refine ⟨w1.setRow b ds.toArray, E1, hat, fun q c hc => ?_, (Zch hs hb ds).sub, fun i d _ hf hd => lkOK_of hl i d hf hd, k _ (Zch hs hb ds) (Zfz hb ds)⟩
  have hst := run_storeCells_at (P := P) b o T v.cells.toList 0 cs.toArray w1 hb.heap (by simpa using hlen) hone
  have hsize : (sizeOf t).run P w1 = .ok v.cells.size w1 := by rw [Zb1 hsz]; simp
  simp only [execOp, hc.ev hx, hc.ev hy, Instr.storeAt, Instr.sureAddr, Sem.run_bind, Sem.run_pure, Result.andThen_ok, storeVar, hsize, ne_eq, not_true_eq_false, if_false]
  simp only [Nat.add_zero] at hst
  simp only [hst, hd, Result.andThen_ok, Sem.run_pure]
end
end Go.Proofs.YtkodnhngllfemaaGreatDoor
