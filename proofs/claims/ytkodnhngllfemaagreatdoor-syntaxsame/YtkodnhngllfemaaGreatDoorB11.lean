import Derived.Test.YtkodnhngllfemaaGreatDoorB10
set_option linter.unusedVariables false
set_option linter.unusedSimpArgs false
namespace Go.Proofs.YtkodnhngllfemaaGreatDoor
open Go
section
variable {P : Program} {n : NS} {ops : Array Oper} {Q : Exit → Act → World → Prop} {E : Env} {w w' : World} {h : Hp} {rest : List Oper} {d : Option Tmp} {dd : Nat} {ty : TypeId} {ps : String} {af : Array Edge} {g : Option (Nat × Bool)}
theorem addr_add (b o k : Nat) : (⟨b, o, none⟩ : Addr).add k = ⟨b, o + k, none⟩ := by
  unfold Addr.add
  split
  · rename_i h; subst h; rfl
  · rfl
theorem subL_RS {α : Type} [Rp α] {A : Option Addr} {c l k : Nat} {xs ys : List α} (r : RS h (.slice A xs.length c) xs) (hl : l ≤ k) (hk : k ≤ xs.length) (hy : (xs.take k).drop l = ys) : RS h (sliced A l k c (Rp.sz α)) ys := by
  obtain ⟨A', c', e, hc, hr⟩ := r
  cases e
  subst hy
  have hlen : ((xs.take k).drop l).length = k - l := by simp; omega
  unfold sliced
  rw [← hlen]
  refine ⟨_, _, rfl, by rw [hlen]; omega, fun hne => ?_⟩
  have hlt : l < k := by
    rcases Nat.lt_or_ge l k with q | q
    · exact q
    · exact absurd (List.eq_nil_of_length_eq_zero (by rw [hlen]; omega)) hne
  have hcl : c ≠ l := by omega
  obtain ⟨b, o, rfl, hj⟩ := hr (by rintro rfl; simp at hk; omega)
  refine ⟨b, o + l * Rp.sz α, by rw [if_neg hcl, Option.map_some, addr_add], fun j x hx => ?_⟩
  have hx' : xs[l + j]? = some x := by
    rw [List.getElem?_drop] at hx
    have : l + j < k := by
      have := (List.getElem?_eq_some_iff.1 hx).1
      simp at this; omega
    rwa [List.getElem?_take_of_lt this] at hx
  have := hj (l + j) x hx'
  rwa [Nat.add_mul, ← Nat.add_assoc] at this
theorem run_sliceL {t et : TypeId} {A : Option Addr} {m c : Nat} {sz : Nat} {lo hi : Option Value} {l k : Int} (ht : P.underlying t = some (.slice et)) (hz : Zhb P et = some sz) (hl : lo = none ∧ l = 0 ∨ ∃ q, lo = some (.int q l)) (hh : hi = none ∧ k = m ∨ ∃ q, hi = some (.int q k))
    (h0 : 0 ≤ l ∧ l ≤ k ∧ k ≤ m) (hmc : m ≤ c) : (Instr.sliceAt t (.slice A m c) lo hi none).run P w = .ok (sliced A l.toNat k.toNat c sz) w := by
  have hel : P.elem t = et := by simp [Program.elem, ht]
  have ht' : P.underlying t = some (.slice (P.elem t)) := by rw [hel]; exact ht
  have hsz : (sizeOf (P.elem t)).run P w = .ok sz w := by rw [hel]; exact Z83 hz w
  rw [run_sliceAt_slice (P := P) w t _ _ _ _ ht']
  rcases hl with ⟨rfl, rfl⟩ | ⟨q, rfl⟩ <;> rcases hh with ⟨rfl, rfl⟩ | ⟨q', rfl⟩
  · rw [run_slice_all w t A m c ht', hsz]; simp
  · rw [run_slice_h w t A m c ht' q' k h0.2.1 (by omega), hsz]; simp
  · rw [run_slice_l w t A m c ht' q l h0.1 h0.2.1, hsz]; simp
  · rw [run_slice_lh w t A m c ht' q q' l k h0.1 h0.2.1 (by omega), hsz]; simp
theorem subL_of {α : Type} {xs ys : List α} {l k : Int} (hr : subL? xs l k = some ys) : (0 ≤ l ∧ l ≤ k ∧ k ≤ xs.length) ∧ (xs.take k.toNat).drop l.toNat = ys := by
  unfold subL? at hr
  split at hr
  · rename_i h; exact ⟨h, Option.some.inj hr⟩
  · cases hr
theorem ov_sliceLL {α : Type} [Rp α] {v : Value} {xs ys : List α} {l : Int} {t et : TypeId} (r : RS h v xs) (ht : P.underlying t = some (.slice et)) (hz : Zhb P et = some (Rp.sz α)) (hr : subL? xs l xs.length = some ys) :
    ∃ v', (∀ {E : Env} {w : World} {x y : Operand} {q : IntKind} {d : Option Tmp} {ty : TypeId} {ps : String} {af : Array Edge} {g : Option (Nat × Bool)}, ev E x = some v → ev E y = some (.int q l) → OV P ⟨d, .slice t x (some y) none none, ty, ps, af, g⟩ E w v' w) ∧ RS h v' ys := by
  obtain ⟨A, c, rfl, r'⟩ := r.form
  obtain ⟨h0, hy⟩ := subL_of hr
  have hc : xs.length ≤ c := by obtain ⟨A', c', e, hc, _⟩ := r'; cases e; exact hc
  refine ⟨_, fun hx hy n a ha => ?_, subL_RS r' (by omega) (by omega) hy⟩
  simp only [execOp, ha.ev hx, ha.ev hy, Option.map_some, Option.map_none, run_sliceL ht hz (.inr ⟨_, rfl⟩) (.inl ⟨rfl, rfl⟩) h0 hc, Sem.run_bind, Result.andThen_ok, Sem.run_pure]
end
end Go.Proofs.YtkodnhngllfemaaGreatDoor
