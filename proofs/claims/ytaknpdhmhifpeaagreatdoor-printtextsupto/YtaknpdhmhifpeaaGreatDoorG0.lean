import Derived.Test.YtaknpdhmhifpeaaGreatDoorBH
import Derived.Shelf.Strconv.Itoa3
set_option linter.unusedVariables false
namespace Go.Proofs.YtaknpdhmhifpeaaGreatDoor
open Go
def tab_ops : List (List Int) := [[8], [9], [10], [11, 12], [13, 14, 15, 16], [17, 18], [19, 20, 21]]
def tab_signs : List (List ByteArray) := [[⟨#[111, 114]⟩], [⟨#[120, 111, 114]⟩], [⟨#[97, 110, 100]⟩], [⟨#[61]⟩, ⟨#[60, 62]⟩], [⟨#[60]⟩, ⟨#[60, 61]⟩, ⟨#[62]⟩, ⟨#[62, 61]⟩], [⟨#[43]⟩, ⟨#[45]⟩], [⟨#[42]⟩, ⟨#[47]⟩, ⟨#[109, 111, 100]⟩]]
def Z54 : List (Int × (Bool × Int × Int × Bool × Bool)) := [(1, (true, 1, 1, false, false)), (2, (true, 0, 501, false, false)), (3, (false, 1, 1, true, true)), (4, (false, 1, 1, false, true)), (5, (true, 2, 2, true, false)), (6, (false, 1, 1, true, false)), (7, (false, 1, 1, true, false)), (8, (false, 0, 0, false, false)), (9, (false, 0, 0, false, false))]


/-- What the package-level variables hold. -/
structure Glob (h : Hp) : Prop where
  t : True
  g0 : RS h (.slice (some ⟨0, 0, none⟩) 7 7) tab_ops
  g1 : RS h (.slice (some ⟨1, 0, none⟩) 7 7) tab_signs
  g2 : ∃ v, h 2 0 = some v ∧ RM (fun x : Bool × Int × Int × Bool × Bool => .agg #[.bool x.1, .int .i64 x.2.1, .int .i64 x.2.2.1, .bool x.2.2.2.1, .bool x.2.2.2.2]) h v Z54
  g3 : 3 < h.base ∧ ∃ T fr, h.low 3 = some (.cells (Go.Lib.pow10Tab.map fun z => Value.int .u64 z).toArray T fr)
  g4 : ∃ m, h 4 0 = some (.int .i64 m)
theorem Glob.mono {h h' : Hp} (le : Hle h h') (eb : h'.base = h.base) (el : h'.low = h.low) (g : Glob h) : Glob h' := ⟨trivial, g.g0.mono le, g.g1.mono le, let ⟨v, a, b⟩ := g.g2; ⟨v, le.1 _ _ _ a, b.mono le⟩, by rw [eb, el]; exact g.g3, let ⟨m, a⟩ := g.g4; ⟨m, le.1 _ _ _ a⟩⟩
end Go.Proofs.YtaknpdhmhifpeaaGreatDoor
