import Derived.Test.YtkodnhngllfemaaGreatDoorK1
set_option linter.unusedVariables false
set_option linter.unusedSimpArgs false
namespace Go.Proofs.YtkodnhngllfemaaGreatDoor
open Go Go.ChangeShapes Go.WideShapes Go.ChangeAt Go.RowKit
theorem okWide_array {P : Program} {W : World} {r : Reach} {base n : Nat} {t e : TypeId} {v : Value} (ht : P.underlying t = some (.array n e)) (h : Value.okWide P W r base t v) : ∃ cs, v = .agg cs ∧ cs.size = P.cellsOf t := by
  simp only [Value.okWide, ht] at h
  obtain ⟨cs, h1, h2, _⟩ := h
  exact ⟨cs, h1, h2⟩
theorem cPair : Tryz.prog.cellsOf 60 = 12 := by kernel_rfl
theorem pair_cells {P : Program} {H : Type} {enc : TypeId × Value → H} {W : World} {base : Nat} {sp : Nat → Bool} {held : Bool} {n z t e : Nat} {cs : List Value} {y : DataW H × List MemPlace} (ht : P.underlying t = some (.array 2 e)) (hz : P.cellsOf e = z) (hcs : P.cellsOf t = 2 * z) (h : DataW.trod enc P W base sp held n t cs = some y) :
    ∃ m y0 y1, DataW.trod enc P W base sp held m e (cs.take z) = some y0 ∧ DataW.trod enc P W base sp held m e (cs.drop z) = some y1 := by
  obtain ⟨xs, m, rfl, rfl, hl, hxl, hat⟩ := DataW.trod_array ht h
  subst hz
  rw [hcs] at hl
  obtain ⟨y0, g0⟩ := getO (l := xs) (i := 0) (by omega)
  obtain ⟨y1, g1⟩ := getO (l := xs) (i := 1) (by omega)
  have e0 := (hat 0 (by omega)).trans g0
  have e1 := (hat 1 (by omega)).trans g1
  rw [Nat.zero_mul, List.drop_zero] at e0
  rw [Nat.one_mul, List.take_of_length_le (by rw [List.length_drop]; omega)] at e1
  exact ⟨m, y0, y1, e0, e1⟩
theorem read_pair {H : Type} {enc : TypeId × Value → H} {W : World} {base : Nat} {sp : Nat → Bool} {held : Bool} {n : Nat} {cs : List Value} {y : DataW H × List MemPlace} (h : DataW.trod enc Tryz.prog W base sp held n 60 cs = some y) :
    ∃ (a b : Ex) (c d : List Value), cs = c ++ d ∧ Rp.R (hp0 W) a c ∧ Rp.R (hp0 W) b d ∧ a.fits ∧ b.fits := by
  obtain ⟨m, y0, y1, e0, e1⟩ := pair_cells Tryz.underlying60 cE cPair h
  obtain ⟨a, r0, f0⟩ := read_expr _ e0
  obtain ⟨b, r1, f1⟩ := read_expr _ e1
  exact ⟨a, b, cs.take 6, cs.drop 6, (List.take_append_drop 6 cs).symm, r0, r1, f0, f1⟩
end Go.Proofs.YtkodnhngllfemaaGreatDoor
