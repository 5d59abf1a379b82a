/- The abstract machine: works() of selvedgelaw10 is true: the run. -/
import Derived.Test.YthbanbnmomcohaaGreatDoorM15
set_option linter.all false
set_option linter.unusedSimpArgs false
namespace Go.Ab.Dirs
open Go Go.Ab Go.Proofs Go.RowKit
noncomputable def saysTrue (r : Option (AVal × St)) : Bool := match r with | some (.bool b, _) => b | _ => false
theorem run_true : saysTrue (call T 100000 false 10 [] st0) = true := by decide +kernel

theorem works_true (W : World) (h : Laid W) : Calls Tryz.prog 10 #[] W fun e w' => e = .returned (.bool true) ∧ Below W.heap.size W w' := by
  have hr := run_true
  unfold saysTrue at hr
  split at hr
  · rename_i b σ' hc
    subst hr
    refine (calls_of_run (cf_ok W h 100000) hc (xs := []) (by simp [VRs])).mono ?_
    rintro e w' ⟨ν, x, rfl, hx, hrel⟩
    simp only [VR] at hx
    subst hx
    exact ⟨rfl, hrel.below⟩
  · simp at hr
end Go.Ab.Dirs
