/- A world that holds the listed tables, for the witnesses of selvedgelaw10's rows. -/
import Derived.Test.YthbanbnmomcohaaGreatDoorM12
import Derived.Test.YthbanbnmomcohaaGreatDoorRows
import Derived.WalkKit
import Derived.ProofKit
import Derived.OpenShut
import Derived.Deep.DeepHandedRow
import Derived.Lib.LaidTab
set_option linter.all false
set_option linter.unusedSimpArgs false
set_option maxRecDepth 100000
namespace Go.Proofs.YthbanbnmomcohaaGreatDoor.Laws
open Go Go.Ab Go.Ab.Dirs Go.ChangeShapes Go.WideShapes Go.ChangeAt Go.RowKit

/-- A world for the witness: the listed tables hold what they should. -/
noncomputable def toV : AVal → Value
  | .int k n => .int k n
  | .bool b => .bool b
  | .str s => .string ⟨(s.map UInt8.ofNat).toArray⟩
  | _ => .bool false
noncomputable def put (l : List AVal) : Obj → Obj
  | .cells _ t frozen => .cells (l.map toV).toArray t frozen
  | o => o
noncomputable def laidWorld (os : Os) : World :=
  { World.holding Tryz.prog os ⟨#[], #[], []⟩ with heap := ((((World.holding Tryz.prog os ⟨#[], #[], []⟩).heap.modify 0 (put g0)).modify 1 (put g1)).modify 3 (put g3)).modify 4 (put g4) }
theorem laid_met (os : Os) (args : Array Value) : laidMet Tryz.prog Rows.dirsFirstRow.laid ((laidWorld os).forCall (fun _ _ => 0) ⟨#[], args, []⟩).memory :=
  laidMet_of_run' 12 (by kernel_rfl) (by kernel_rfl)
end Go.Proofs.YthbanbnmomcohaaGreatDoor.Laws
