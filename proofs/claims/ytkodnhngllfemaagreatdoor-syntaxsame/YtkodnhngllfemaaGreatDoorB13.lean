import Derived.Test.YtkodnhngllfemaaGreatDoorB12
import Derived.Shelf.Strings.Builder1
import Derived.Lib.UnsafeStr
import Derived.Sort.Grow
set_option linter.unusedVariables false
set_option linter.unusedSimpArgs false
namespace Go.Proofs.YtkodnhngllfemaaGreatDoor
open Go
theorem Stp.of_below {w w' : World} {h : Hp} (hs : Sub h w) (b : Go.RowKit.Below w.heap.size w w') : Stp [] w h w' h := by
  refine ⟨b.os, b.tape, b.output, b.size, fun i hi _ => b.block i hi, ⟨fun c o v e => ?_, Nat.le_trans hs.big b.size, fun i hi => (b.block i (Nat.lt_of_lt_of_le hi hs.big)).trans (hs.lows i hi), hs.glob, fun c es e => ?_⟩, rfl, rfl, Hle.refl h, fun _ _ _ _ => rfl, fun _ _ _ => rfl⟩
  · have hl := hs.lt e
    have := hs.at_ c o v e
    rwa [← World.cell?_of_block (w := w) (a := ⟨c, o, none⟩) (b.block c hl)] at this
  · obtain ⟨clk, hk⟩ := hs.maps c es e
    exact ⟨clk, (b.block c (Array.getElem?_eq_some_iff.1 hk).1).trans hk⟩
theorem grow_below {w : World} (k : Nat) (os : Array Obj) : Go.RowKit.Below w.heap.size w (Go.Sort.grow (w.drewN k) os) := by
  refine ⟨rfl, rfl, rfl, by simp [Go.Sort.grow, World.drewN], fun i hi => ?_⟩
  show (w.heap ++ os)[i]? = _
  rw [Array.getElem?_append_left hi]
section
variable {P : Program} {n : NS} {ops : Array Oper} {Q : Exit → Act → World → Prop} {E : Env} {w w' : World} {h : Hp} {rest : List Oper} {d : Option Tmp} {dd : Nat} {ty : TypeId} {ps : String} {af : Array Edge} {g : Option (Nat × Bool)}
end
end Go.Proofs.YtkodnhngllfemaaGreatDoor
namespace Go.Proofs
open Go.Shelf Go.RowKit
variable {P : Program} {ρ : Ren}
end Go.Proofs
