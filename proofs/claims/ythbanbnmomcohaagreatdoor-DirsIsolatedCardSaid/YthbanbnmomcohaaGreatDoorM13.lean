/- The abstract machine: the checks of the tables of selvedgelaw10: types. -/
import Derived.Test.YthbanbnmomcohaaGreatDoorM12
import Derived.Test.YthbanbnmomcohaaGreatDoorChecked
set_option linter.all false
set_option linter.unusedSimpArgs false
namespace Go.Ab.Dirs
open Go Go.Ab Go.Proofs
theorem tt_ok : Tr.all (okTI Tryz.prog) [] tt = true := by decide +kernel
end Go.Ab.Dirs
