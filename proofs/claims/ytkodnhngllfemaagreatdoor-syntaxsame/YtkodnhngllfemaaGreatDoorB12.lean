import Derived.Test.YtkodnhngllfemaaGreatDoorB11
set_option linter.unusedVariables false
set_option linter.unusedSimpArgs false
namespace Go.Proofs.YtkodnhngllfemaaGreatDoor
open Go
theorem ni_nil {b : Nat} : b ∉ ([] : List Nat) := by simp
theorem Z5l {b c : Nat} {l : List Nat} (h : b ≠ c) (t : b ∉ l) : b ∉ c :: l := by simp [h, t]
theorem Za {v : Value} : ∀ b ∈ ([] : List Nat), v.ownBlock ≠ some b := by simp
theorem Z4 {v : Value} {c : Nat} {l : List Nat} (h : v.ownBlock ≠ some c) (t : ∀ b ∈ l, v.ownBlock ≠ some b) : ∀ b ∈ c :: l, v.ownBlock ≠ some b := by
  intro b hb; rcases List.mem_cons.1 hb with rfl | hb
  · exact h
  · exact t b hb
theorem Z04 {M : List Nat} {B : Nat} : ∀ i ∈ ([] : List Nat), i ∈ M ∨ B ≤ i := by simp
theorem Zn {M l : List Nat} {B c : Nat} (h : c ∈ M ∨ B ≤ c) (t : ∀ i ∈ l, i ∈ M ∨ B ≤ i) : ∀ i ∈ c :: l, i ∈ M ∨ B ≤ i := by
  intro b hb; rcases List.mem_cons.1 hb with rfl | hb
  · exact h
  · exact t b hb
section
variable {P : Program} {n : NS} {ops : Array Oper} {Q : Exit → Act → World → Prop} {E : Env} {w w' : World} {h : Hp} {rest : List Oper} {d : Option Tmp} {dd : Nat} {ty : TypeId} {ps : String} {af : Array Edge} {g : Option (Nat × Bool)}
theorem Own.ne_ob {base e sz m c T : Nat} {v : Value} {ds : List Value} (own : Own w h base e sz v m) (ob : OB w h c T ds) (hne : e ≠ T) : v.ownBlock ≠ some c := fun hc => own.ne ob hne c (by simp [hc]) rfl
theorem Own.ne_own {base e sz m base' e' sz' m' : Nat} {v v' : Value} (own : Own w h base e sz v m) (own' : Own w h base' e' sz' v' m') (hne : e ≠ e') : ∀ b ∈ v'.ownBlock.toList, v.ownBlock ≠ some b := by
  rcases own with ⟨rfl, _⟩ | ⟨g, cap, cur, rfl, hbg, hg, _⟩
  · simp [Value.ownBlock]
  · rcases own' with ⟨rfl, _⟩ | ⟨g', cap', cur', rfl, hbg', hg', _⟩
    · simp [Value.ownBlock]
    · intro b hb hc
      simp [Value.ownBlock] at hb hc
      subst hb; subst hc
      have := hg.symm.trans hg'
      simp only [Option.some.injEq, Obj.cells.injEq] at this
      exact hne this.2.1
def tFld (P : Program) (s i : Nat) : Option (Nat × Nat) := match P.underlying s with
  | some (.struct fs) => (fs[i]?).map fun f => (f.type, f.offset)
  | _ => none
theorem Za7 {t ft off : Nat} {x : Operand} {i : Nat} {cs : Array Value} {v : Value} (hx : ev E x = some (.agg cs)) (hf : tFld P t i = some (ft, off)) (ha : tAgg P ft = some false) (hv : cs[off]? = some v) : OV P ⟨d, .field t x i, ty, ps, af, g⟩ E w v w := fun n a hat => by
  unfold tFld at hf
  split at hf
  · rename_i fs hu
    obtain ⟨f, hf1, hf2⟩ := Option.map_eq_some_iff.1 hf
    cases hf2
    simp [execOp, hat.ev hx, Instr.field, run_underlying hu, hf1, part, run_isAgg ha, asAgg, hv]
  · cases hf
theorem Z4z {x y : Operand} {t e b o len z : Nat} {i : Int} (h : ev E x = some (.pointer (some ⟨b, o, none⟩))) (hy : ev E y = some (.int .i64 i)) (ht : P.underlying t = some (.array len e)) (hz : Zhb P e = some z) (h0 : 0 ≤ i) (h1 : i < len) :
    OV P ⟨d, .indexAddr t x y, ty, ps, af, g⟩ E w (.pointer (some ⟨b, o + i.toNat * z, none⟩)) w := fun n a ha => by
  simp only [execOp, ha.ev h, ha.ev hy, Instr.indexAt, asIntOf, Sem.run_bind, Sem.run_pure, Result.andThen_ok, run_underlying ht w]
  simp [h0, h1, Z83 hz, Zf1, Instr.sureAddr, run_underlying ht]
theorem Z25 {t b o : Nat} {v : Value} (ht : tAgg P t = some false) (hc : w.cell? ⟨b, o, none⟩ = some v) : (loadVar t ⟨b, o, none⟩).run P w = .ok v w := by
  simp only [loadVar, Sem.run_bind, run_isAgg ht, Result.andThen_ok]
  simp [hc]
theorem Z11 {t b o : Nat} {cs : List Value} (ht : tAgg P t = some true) (hz : Zhb P t = some cs.length) (hc : ∀ j v, cs[j]? = some v → w.cell? ⟨b, o + j, none⟩ = some v) : (loadVar t ⟨b, o, none⟩).run P w = .ok (.agg cs.toArray) w := by
  have hl := run_loadCells_list (P := P) w ⟨b, o, none⟩ cs (fun j v hv => by rw [Zf1]; exact hc j v hv)
  simp only [loadVar, Sem.run_bind, Sem.run_pure, Result.andThen_ok, run_isAgg ht, Z83 hz, if_true, hl]
theorem Z5p {fn : Func} {t ty b o : Nat} {R : Ending → World → Prop} {v : Value} (hr : fn.results = #[.cell t ty]) (hv : lk E t = some (.pointer (some ⟨b, o, none⟩))) (hl : (loadVar ty ⟨b, o, none⟩).run P w = .ok v w) (h : R (.returned v) w) (hd : n.ds = [] := by rfl) : WQ n (bodyPost P fn R) .ret E w := fun a ha =>
  bodyPost_ret (v := v) (by
    have e := ha.slot t _ hv
    simp only [results, hr]
    rw [Array.getD_eq_getD_getElem?] at e
    simp [e, asAddr, hl]) (ha.defers.trans hd) h
end
end Go.Proofs.YtkodnhngllfemaaGreatDoor
