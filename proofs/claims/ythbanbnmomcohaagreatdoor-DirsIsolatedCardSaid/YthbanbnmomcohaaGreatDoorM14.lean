/- The abstract machine: the checks of the tables of selvedgelaw10: functions. -/
import Derived.Test.YthbanbnmomcohaaGreatDoorM13
set_option linter.all false
set_option linter.unusedSimpArgs false
namespace Go.Ab.Dirs
open Go Go.Ab Go.Proofs
theorem tab_ok : Tr.all (okFnAt Tryz.prog S []) [] fns = true := by decide +kernel
theorem tabS_ok : Tr.all (okFnAt Tryz.prog SS [10]) [] fnsS = true := by decide +kernel
end Go.Ab.Dirs
