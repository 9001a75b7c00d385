/- a world in which the listed tables stand. -/
import Derived.Test.YtbldchemgkfdcaaGreatDoorRowKit
namespace Go.Proofs.YtbldchemgkfdcaaGreatDoor
open Go.ChangeShapes Go.WideShapes Go.ChangeAt Go.RowKit

/-- the cells of a table -/
def tabCells : DataW Unit → Array Value
  | .agg xs => (xs.map fun | .lit (.int k z) => Value.int k z | _ => undef).toArray
  | _ => #[]
/-- a world in which the listed tables stand -/
noncomputable def laidW (laid : List (String × DataW Unit)) (os : Os) : World :=
  laid.foldl (fun w x => match Tryz.prog.globalNamed x.1 with
    | some g => { w with heap := w.heap.modify g fun
      | .cells _ t frozen => .cells (tabCells x.2) t frozen
      | o => o }
    | none => w) (World.holding Tryz.prog os ⟨#[], #[], []⟩)

end Go.Proofs.YtbldchemgkfdcaaGreatDoor
