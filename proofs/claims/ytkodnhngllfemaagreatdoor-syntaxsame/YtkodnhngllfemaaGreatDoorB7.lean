import Derived.Test.YtkodnhngllfemaaGreatDoorB6
set_option linter.unusedVariables false
set_option linter.unusedSimpArgs false
namespace Go.Proofs.YtkodnhngllfemaaGreatDoor
open Go
section
variable {P : Program} {n : NS} {ops : Array Oper} {Q : Exit → Act → World → Prop} {E : Env} {w w' : World} {h : Hp} {d : Option Tmp} {ty : TypeId} {ps : String} {af : Array Edge} {g : Option (Nat × Bool)} {ats : Array TypeId}
theorem Z09 {x y : Code} (I : Env → World → Prop) (rest : ∀ E w, I E w → WC P n y Q E w)
    (k : (∀ {E w}, I E w → WC P n y Q E w) → WC P n x (Exit.then (y.wp P Q) Q) E w) : WC P n (.seq x y) Q E w := Zb (k fun {E w} h => rest E w h)
theorem Z4k {c : Code} {K : Nat} (I : Nat → Env → World → Prop) (h0 : ∀ E w, ¬ I 0 E w)
    (step : ∀ j, j + 1 ≤ K → (∀ i, i ≤ j → ∀ E w, I i E w → WP P n c Q E w) → ∀ E w, I (j + 1) E w → WC P n c (Exit.then (LoopWP P c Q) Q) E w) {j : Nat} (hj : j ≤ K) (hi : I j E w) : WP P n c Q E w := by
  have key : ∀ N i, i ≤ N → i ≤ K → ∀ E w, I i E w → WP P n c Q E w := by
    intro N
    induction N with
    | zero => intro i hi hK E w h; obtain rfl : i = 0 := by omega
              exact absurd h (h0 E w)
    | succ N ih =>
      intro i hi hK E w h
      cases i with
      | zero => exact absurd h (h0 E w)
      | succ i => exact WP.round (step i hK (fun q hq E w hi2 => ih q (by omega) (by omega) E w hi2) E w h)
  exact key j j (Nat.le_refl _) hj E w hi
theorem WQ.ret3 {fn : Func} {t u m : Tmp} {R : Ending → World → Prop} {v x y : Value} (hr : fn.results = #[.tmp t, .tmp u, .tmp m]) (hv : lk E t = some v) (hx : lk E u = some x) (hy : lk E m = some y) (h : R (.returned (.tuple #[v, x, y])) w) (hd : n.ds = [] := by rfl) : WQ n (bodyPost P fn R) .ret E w := fun a ha =>
  bodyPost_ret (v := .tuple #[v, x, y]) (by simp only [results, hr]; simp [ha.slot t v hv, ha.slot u x hx, ha.slot m y hy, ← Array.getD_eq_getD_getElem?]) (ha.defers.trans hd) h
def at? {α : Type} (xs : List α) (i : Int) : Option α := if 0 ≤ i then xs[i.toNat]? else none
def atS? (s : ByteArray) (i : Int) : Option Int := if h : 0 ≤ i ∧ i.toNat < s.size then some ((s[i.toNat]'h.2).toNat : Int) else none
def subS? (s : ByteArray) (lo hi : Int) : Option ByteArray := if 0 ≤ lo ∧ lo ≤ hi ∧ hi ≤ s.size then some (s.extract lo.toNat hi.toNat) else none
def subL? {α : Type} (xs : List α) (lo hi : Int) : Option (List α) := if 0 ≤ lo ∧ lo ≤ hi ∧ hi ≤ xs.length then some ((xs.take hi.toNat).drop lo.toNat) else none
def imax (a b : Int) : Int := if a < b then b else a
def imin (a b : Int) : Int := if b < a then b else a
theorem RS.atO {α : Type} [Rp α] {h : Hp} {A : Option Addr} {m c : Nat} {xs : List α} (r : RS h (.slice A m c) xs) {i : Int} {e : α} (he : at? xs i = some e) :
    ∃ b o, A = some ⟨b, o, none⟩ ∧ 0 ≤ i ∧ i < m ∧ RA h b (o + i.toNat * Rp.sz α) e := by
  unfold at? at he
  split at he
  · rename_i h0
    obtain ⟨A', c', e1, hc, hr⟩ := r
    cases e1
    have hlt := (List.getElem?_eq_some_iff.1 he).1
    obtain ⟨b, o, e2, hj⟩ := hr (by intro hx; subst hx; simp at he)
    exact ⟨b, o, e2, h0, by omega, hj _ _ he⟩
  · cases he
theorem Z93 {x y : Operand} {t : TypeId} {s : ByteArray} {i c : Int} (hx : ev E x = some (.string s)) (hy : ev E y = some (.int .i64 i)) (ht : P.underlying t = some .string) (hc : atS? s i = some c) : OV P ⟨d, .index t x y, ty, ps, af, g⟩ E w (.int .u8 c) w := by
  unfold atS? at hc
  split at hc
  · rename_i h0; cases hc; exact ov_indexS hx hy ht h0.1 h0.2
  · cases hc
theorem OB.cells {T b : Nat} {cs0 cs : List Value} (ob : OB w h b T cs0) (o : Nat) (hcs : (cs0.drop o).take cs.length = cs) : ∀ j v, cs[j]? = some v → w.cell? ⟨b, o + j, none⟩ = some v := fun j v hv => ob.cell (by
  rw [← hcs] at hv
  rw [List.getElem?_take] at hv
  split at hv
  · rw [List.getElem?_drop] at hv; exact hv
  · cases hv)
theorem OB.ne_new {T b c : Nat} {cs : List Value} (ob : OB w h b T cs) (hc : c = w.heap.size) : b ≠ c := by
  have := ob.lt
  omega
theorem Own.ne_old {base e sz m b : Nat} {v : Value} (own : Own w h base e sz v m) (hb : b < base) : v.ownBlock ≠ some b := fun hc => by
  have := own.base_le b (by rw [hc]; simp)
  omega
theorem Own.lit {base e sz m b : Nat} {cs : List Value} (hblk : w.heap[b]? = some (.cells cs.toArray e (0, 0))) (hc : ∀ o, h b o = cs[o]?) (hb : base ≤ b) (hl : cs.length = m * sz) (hm : (Nat.ble m 1000 && Nat.blt 0 m) = true) : Own w h base e sz (.slice (some ⟨b, 0, none⟩) m m) m :=
  .inr ⟨b, m, _, rfl, hb, hblk, Nat.le_refl _, ⟨by rw [Bool.and_eq_true] at hm; have := Nat.le_of_ble_eq_true hm.1; simp only [maxLen]; omega, by rw [Bool.and_eq_true, Nat.blt_eq] at hm; exact hm.2⟩, by simpa using hl, fun o ho => by rw [hc]; exact List.getElem?_eq_none (by omega)⟩
theorem ov_max {x y : Operand} {t u : TypeId} {k k' : IntKind} {a b : Int} (hx : ev E x = some (.int k a)) (hy : ev E y = some (.int k' b)) : OV P ⟨d, .call ⟨.builtin .max, #[x, y], #[t, u]⟩, ty, ps, af, g⟩ E w (.int k (imax a b)) w := fun n ac ha => by
  simp [execOp, resolve, invoke, builtin, ha.ev hx, ha.ev hy, run_max_int2, imax]
theorem ov_min {x y : Operand} {t u : TypeId} {k k' : IntKind} {a b : Int} (hx : ev E x = some (.int k a)) (hy : ev E y = some (.int k' b)) : OV P ⟨d, .call ⟨.builtin .min, #[x, y], #[t, u]⟩, ty, ps, af, g⟩ E w (.int k (imin a b)) w := fun n ac ha => by
  simp [execOp, resolve, invoke, builtin, ha.ev hx, ha.ev hy, run_min_int2, imin]
def tPlaces (P : Program) (t : TypeId) : Option (List (Nat × Nat)) := match P.underlying t with
  | some (.struct fs) => fs.toList.mapM (fun f => (P.info? f.type).map fun i => (f.offset, i.size))
  | _ => none
theorem Z38 {t : TypeId} {parts : List (Nat × Operand)} {vs : List (Nat × Value)} {cs : List Value} {pl : List (Nat × Nat)} {z : Value} (hv : parts.map (fun p => (ev E p.2).map (p.1, ·)) = vs.map some) (hp : tPlaces P t = some pl) (hz : tZero P t = some z)
    (hf : Instr.fill (pl.toArray[·]?) z.cells vs = some cs.toArray) : OV P ⟨d, .build t parts.toArray, ty, ps, af, g⟩ E w (.agg cs.toArray) w := by
  refine ov_build hv ?_
  unfold tPlaces at hp
  unfold tZero at hz
  unfold Program.built
  split at hp
  · rename_i fs hu
    obtain ⟨i, hi, hz2⟩ := Option.bind_eq_some_iff.1 hz
    simp only [hi, hu, hz2, hp]
    exact hf
  · cases hp
theorem sub_run {t : TypeId} {s : ByteArray} {lo hi : Option Value} {l h : Int} (ht : P.underlying t = some .string) (hl : lo = none ∧ l = 0 ∨ ∃ k, lo = some (.int k l)) (hh : hi = none ∧ h = s.size ∨ ∃ k, hi = some (.int k h))
    (h0 : 0 ≤ l ∧ l ≤ h ∧ h ≤ s.size) : (Instr.sliceAt t (.string s) lo hi none).run P w = .ok (.string (s.extract l.toNat h.toNat)) w := by
  rw [run_sliceAt_string (P := P) w t _ _ _ _ ht]
  have e : (h.toNat : Int) = h := Int.toNat_of_nonneg (by omega)
  rcases hl with ⟨rfl, rfl⟩ | ⟨k, rfl⟩ <;> rcases hh with ⟨rfl, rfl⟩ | ⟨k', rfl⟩
  · simp [Instr.slice, run_underlying ht, Instr.sliceBounds]
  · simp [Instr.slice, run_underlying ht, Instr.sliceBounds, run_sliceBound, h0, (by omega : 0 ≤ h)]
  · simp [Instr.slice, run_underlying ht, Instr.sliceBounds, run_sliceBound, h0]
  · simp [Instr.slice, run_underlying ht, Instr.sliceBounds, run_sliceBound, h0, (by omega : 0 ≤ h), e]
theorem ov_sliceSLH {x y z : Operand} {t : TypeId} {s r : ByteArray} {lo hi : Int} {k k' : IntKind} (hx : ev E x = some (.string s)) (hy : ev E y = some (.int k lo)) (hz : ev E z = some (.int k' hi)) (ht : P.underlying t = some .string) (hr : subS? s lo hi = some r) : OV P ⟨d, .slice t x (some y) (some z) none, ty, ps, af, g⟩ E w (.string r) w := fun n ac ha => by
  unfold subS? at hr
  split at hr
  · rename_i h0
    cases hr
    simp [execOp, ha.ev hx, ha.ev hy, ha.ev hz, sub_run (w := w) ht (.inr ⟨k, rfl⟩) (.inr ⟨k', rfl⟩) h0]
  · cases hr
theorem ov_sliceSL {x y : Operand} {t : TypeId} {s r : ByteArray} {lo : Int} {k : IntKind} (hx : ev E x = some (.string s)) (hy : ev E y = some (.int k lo)) (ht : P.underlying t = some .string) (hr : subS? s lo s.size = some r) : OV P ⟨d, .slice t x (some y) none none, ty, ps, af, g⟩ E w (.string r) w := fun n ac ha => by
  unfold subS? at hr
  split at hr
  · rename_i h0
    cases hr
    simp [execOp, ha.ev hx, ha.ev hy, sub_run (w := w) ht (.inr ⟨k, rfl⟩) (.inl ⟨rfl, rfl⟩) h0]
  · cases hr
theorem ov_sliceSH {x z : Operand} {t : TypeId} {s r : ByteArray} {hi : Int} {k' : IntKind} (hx : ev E x = some (.string s)) (hz : ev E z = some (.int k' hi)) (ht : P.underlying t = some .string) (hr : subS? s 0 hi = some r) : OV P ⟨d, .slice t x none (some z) none, ty, ps, af, g⟩ E w (.string r) w := fun n ac ha => by
  unfold subS? at hr
  split at hr
  · rename_i h0
    cases hr
    simp only [execOp, ha.ev hx, ha.ev hz, Option.map_none, Option.map_some, sub_run (w := w) ht (.inl ⟨rfl, rfl⟩) (.inr ⟨k', rfl⟩) h0, Sem.run_bind, Result.andThen_ok, Sem.run_pure]
  · cases hr
end
end Go.Proofs.YtkodnhngllfemaaGreatDoor
