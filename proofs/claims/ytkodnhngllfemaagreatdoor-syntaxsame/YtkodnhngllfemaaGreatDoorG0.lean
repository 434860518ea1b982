import Derived.Test.YtkodnhngllfemaaGreatDoorBH
import Derived.Shelf.Strconv.Itoa3
set_option linter.unusedVariables false
namespace Go.Proofs.YtkodnhngllfemaaGreatDoor
open Go
def tab_shapes : List (Int × (Bool × Int × Int × Bool × Bool)) := [(1, (true, 1, 1, false, false)), (2, (true, 0, 501, false, false)), (3, (false, 1, 1, true, true)), (4, (false, 1, 1, false, true)), (5, (true, 2, 2, true, false)), (6, (false, 1, 1, true, false)), (7, (false, 1, 1, true, false)), (8, (false, 0, 0, false, false)), (9, (false, 0, 0, false, false))]
structure Glob (h : Hp) : Prop where
  t : True
  g0 : ∃ v, h 0 0 = some v ∧ RM (fun x : Bool × Int × Int × Bool × Bool => .agg #[.bool x.1, .int .i64 x.2.1, .int .i64 x.2.2.1, .bool x.2.2.2.1, .bool x.2.2.2.2]) h v tab_shapes
  g4 : ∃ te pe, h 4 0 = some (.iface te pe)
  g5 : ∃ te pe, h 5 0 = some (.iface te pe)
  g6 : 6 < h.base ∧ ∃ T fr, h.low 6 = some (.cells (Go.Lib.pow10Tab.map fun z => Value.int .u64 z).toArray T fr)
theorem Glob.mono {h h' : Hp} (le : Hle h h') (eb : h'.base = h.base) (el : h'.low = h.low) (g : Glob h) : Glob h' := ⟨trivial, let ⟨v, a, b⟩ := g.g0; ⟨v, le.1 _ _ _ a, b.mono le⟩, let ⟨a, b, c⟩ := g.g4; ⟨a, b, le.1 _ _ _ c⟩, let ⟨a, b, c⟩ := g.g5; ⟨a, b, le.1 _ _ _ c⟩, by rw [eb, el]; exact g.g6⟩
end Go.Proofs.YtkodnhngllfemaaGreatDoor
