/- The abstract machine: works() of selvedgelaw10 is true. -/
import Derived.Test.YthbanbnmomcohaaGreatDoorM14
import Derived.Test.YthbanbnmomcohaaGreatDoorM9
import Derived.KernelRfl
set_option linter.all false
set_option linter.unusedSimpArgs false
namespace Go.Ab.Dirs
open Go Go.Ab Go.Proofs Go.RowKit
theorem casts_ok : okCasts Tryz.prog T.casts = true := by decide +kernel
theorem ext95 : ExtOK Tryz.prog 95 .same := ⟨⟨Tryz.f95, Tryz.func95, by kernel_rfl, by kernel_rfl, by kernel_rfl, by kernel_rfl⟩⟩
theorem ext97 : ExtOK Tryz.prog 97 .indexByte := ⟨⟨Tryz.f97, Tryz.func97, by kernel_rfl, by kernel_rfl, by kernel_rfl, by kernel_rfl⟩⟩
theorem ext133 : ExtOK Tryz.prog 133 .index := ⟨⟨Tryz.f133, Tryz.func133, by kernel_rfl, by kernel_rfl, by kernel_rfl, by kernel_rfl⟩⟩
theorem ext150 : ExtOK Tryz.prog 150 .compare := ⟨⟨Tryz.f150, Tryz.func150, by kernel_rfl, by kernel_rfl, by kernel_rfl, by kernel_rfl⟩⟩

theorem exts_ok : ∀ f e, extOf S.ext f = some e → ExtOK Tryz.prog f e := by
  intro f e h
  simp only [S, extOf] at h
  split at h
  · rename_i h1; subst h1; cases h; exact ext95
  · split at h
    · rename_i h1; subst h1; cases h; exact ext97
    · split at h
      · rename_i h1; subst h1; cases h; exact ext133
      · split at h
        · rename_i h1; subst h1; cases h; exact ext150
        · simp at h

/-- What of a world is leant on: the laid variables. -/
def Laid (W : World) : Prop := ∀ g cs, T.glob.get (path g) = some cs → ROs W [] g 0 cs

theorem base (W : World) (h : Laid W) : Base Tryz.prog S W := ⟨OKS.of tt_ok, CastsOK.of casts_ok, h, exts_ok⟩

theorem cf_ok (W : World) (h : Laid W) (k : Nat) : CFok Tryz.prog W (call S.tab k) := call_ok (Checked.mixed Tryz.checked) (base W h) (TabOK.of [] tab_ok (by simp)) k
end Go.Ab.Dirs
