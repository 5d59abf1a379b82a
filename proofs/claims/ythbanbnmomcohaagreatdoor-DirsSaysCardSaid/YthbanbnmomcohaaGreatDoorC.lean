/- The abstract machine: the checks of the tables of selvedgelaw10: types. -/
import Derived.Test.YthbanbnmomcohaaGreatDoorT3
import Derived.Test.YthbanbnmomcohaaGreatDoorChecked
namespace Go.Ab.Dirs
open Go Go.Ab Go.Proofs
theorem tt_ok : Tr.all (okTI Tryz.prog) [] tt = true := by decide +kernel
end Go.Ab.Dirs

/- The abstract machine: the checks of the tables of selvedgelaw10: functions. -/
namespace Go.Ab.Dirs
open Go Go.Ab Go.Proofs
theorem tab_ok : Tr.all (okFnAt Tryz.prog S []) [] fns = true := by decide +kernel
theorem tabS_ok : Tr.all (okFnAt Tryz.prog SS [10]) [] fnsS = true := by decide +kernel
end Go.Ab.Dirs
