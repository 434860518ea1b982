import Derived.Test.YtkodnhngllfemaaGreatDoorK1
import Derived.LaidLaws
set_option linter.unusedVariables false
set_option linter.unusedSimpArgs false
namespace Go.Proofs.YtkodnhngllfemaaGreatDoor
open Go Go.ChangeShapes Go.WideShapes Go.ChangeAt Go.RowKit
theorem fact_err {W : World} {l : List (String × DataW Unit)} (h : laidMet Tryz.prog l W) {n nm : String} {d : DataW Unit} (hm : (n, .iface nm d) ∈ l) {G t : Nat} (hG : Tryz.prog.globalNamed n = some G) (hT : (Tryz.prog.globals[G]?).map (·.type) = some t) (hi : Tryz.prog.underlying t = some (.interface (Tryz.prog.methodsAt t))) :
    ∃ te pe, (hp0 W) G 0 = some (.iface te pe) := by
  obtain ⟨ps, hl, _⟩ := h
  obtain ⟨g, t', cs, fuel, p, hg, ht, hv, hd⟩ := laid_at hl _ _ hm
  obtain rfl := Option.some.inj (hG.symm.trans hg)
  obtain rfl := Option.some.inj (hT.symm.trans ht)
  obtain ⟨T, fr, hb⟩ := var_heap hg hv
  obtain ⟨_, u, v, hcs, _, _⟩ := iface_of_trod hi hd
  refine ⟨u, v, ?_⟩
  show W.cell? ⟨G, 0, none⟩ = _
  simp only [World.cell?, hb]
  rw [Array.eq_one_of_toList hcs]; rfl
end Go.Proofs.YtkodnhngllfemaaGreatDoor
