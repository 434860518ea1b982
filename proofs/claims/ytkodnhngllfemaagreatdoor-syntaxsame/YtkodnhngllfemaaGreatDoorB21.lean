import Derived.Test.YtkodnhngllfemaaGreatDoorB20
set_option linter.unusedVariables false
set_option linter.unusedSimpArgs false
namespace Go.Proofs.YtkodnhngllfemaaGreatDoor
open Go
section
variable {P : Program} {n : NS} {ops : Array Oper} {Q : Exit → Act → World → Prop} {E : Env} {w w' : World} {h : Hp} {rest : List Oper} {d : Nat} {dd : Option Tmp} {ty : TypeId} {ps : String} {af : Array Edge} {g : Option (Nat × Bool)}
theorem WL.boxD {t : TypeId} {x : Operand} {v : Value} {cs : List Value} (hn : Nat.blt d n = true) (hg : Z8f ops E ⟨some d, .box t x, ty, ps, af, g⟩ = some true) (hx : ev E x = some v) (hcs : v.cells.toList = cs) (hs : Sub h w)
    (k : ∀ w1 h1 b, b = w.heap.size → Stp [] w h w1 h1 → (∀ o, h1 b o = cs[o]?) → WL P n ops Q rest ((d, .pointer (some ⟨b, 0, none⟩)) :: E) w1) : WL P n ops Q (⟨some d, .box t x, ty, ps, af, g⟩ :: rest) E w := by
  subst hcs
  refine WL.val rfl hn hg (w' := w.alloc (.cells v.cells t)) (v := .pointer (some ⟨w.heap.size, 0, none⟩)) (fun m a ha => ?_) ?_
  · simp [execOp, Instr.box, ha.ev hx, newVar, newRow]
  · have e : v.cells = v.cells.toList.toArray := by simp
    rw [e]
    exact k _ _ _ rfl (alloc_row hs _ t) (fun o => hadd_new h _ _ o)
theorem ov_sliceA {x : Operand} {t e b len z : Nat} (hx : ev E x = some (.pointer (some ⟨b, 0, none⟩))) (ht : P.underlying t = some (.array len e)) (hz : Zhb P e = some z) :
    OV P ⟨dd, .slice t x none none none, ty, ps, af, g⟩ E w (.slice (some ⟨b, 0, none⟩) len len) w := fun m a ha => by
  have hl : P.arrayLen t = len := by simp [Program.arrayLen, ht]
  have hel : P.elem t = e := by simp [Program.elem, ht]
  have ht' : P.underlying t = some (.array (P.arrayLen t) (P.elem t)) := by rw [hl, hel]; exact ht
  have hsz : (sizeOf (P.elem t)).run P w = .ok z w := by rw [hel]; exact Z83 hz w
  simp only [execOp, ha.ev hx, Option.map_none, run_sliceAt_array_all w t _ ht', hsz, Result.andThen_ok, Sem.run_bind, Sem.run_pure, hl]
  simp [slicedAt, Zf1]
end
end Go.Proofs.YtkodnhngllfemaaGreatDoor
