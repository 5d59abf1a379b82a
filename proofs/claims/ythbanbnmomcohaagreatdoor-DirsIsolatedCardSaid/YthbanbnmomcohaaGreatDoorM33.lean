/- The abstract machine: the laid variables of the rows of selvedgelaw10. -/
import Derived.Test.YthbanbnmomcohaaGreatDoorM31
import Derived.Test.YthbanbnmomcohaaGreatDoorM32
import Derived.Test.YthbanbnmomcohaaGreatDoorRows
set_option linter.all false
set_option linter.unusedSimpArgs false
namespace Go.Ab.Dirs
open Go Go.Ab Go.Proofs Go.RowKit Go.Proofs.YthbanbnmomcohaaGreatDoor

theorem glob_cases : Tr.all (fun g cs => (g == 0 && eqAs cs g0) || ((g == 1 && eqAs cs g1) || ((g == 3 && eqAs cs g3) || (g == 4 && eqAs cs g4)))) [] T.glob = true := by decide +kernel
theorem dav0 : davIs S.tt 8 120 Rows.laid_unicode_utf8_first g0 = true := by decide +kernel
theorem dav1 : davIs S.tt 8 123 Rows.laid_unicode_utf8_acceptRanges g1 = true := by decide +kernel
theorem dav3 : davIs S.tt 8 157 Rows.laid_selvedge_charref_names g3 = true := by decide +kernel
theorem dav4 : davIs S.tt 8 167 Rows.laid_selvedge_charref_others g4 = true := by decide +kernel

theorem laid_of_row (W : World) (h : laidMetH Tryz.prog [("unicode/utf8.acceptRanges", Rows.laid_unicode_utf8_acceptRanges), ("selvedge/charref.names", Rows.laid_selvedge_charref_names), ("selvedge/charref.others", Rows.laid_selvedge_charref_others), ("unicode/utf8.first", Rows.laid_unicode_utf8_first)] W) : Laid W := by
  have hm := laidMet_of_H h (by kernel_rfl)
  have hS := OKS.of (P := Tryz.prog) (S := S) tt_ok
  intro g cs hg
  have hc := Tr.all_path glob_cases hg
  simp only [Bool.or_eq_true, Bool.and_eq_true, beq_iff_eq] at hc
  rcases hc with ⟨rfl, e⟩ | ⟨rfl, e⟩ | ⟨rfl, e⟩ | ⟨rfl, e⟩
  · rw [eqAs_eq _ _ e]
    exact laid_ROs (n := "unicode/utf8.first") (d := Rows.laid_unicode_utf8_first) (g := 0) (t := 120) (k := 8) («as» := g0) hS hm (by simp only [List.mem_cons]; simp) (by kernel_rfl) (by kernel_rfl) (davIs_eq dav0)
  · rw [eqAs_eq _ _ e]
    exact laid_ROs (n := "unicode/utf8.acceptRanges") (d := Rows.laid_unicode_utf8_acceptRanges) (g := 1) (t := 123) (k := 8) («as» := g1) hS hm (by simp only [List.mem_cons]; simp) (by kernel_rfl) (by kernel_rfl) (davIs_eq dav1)
  · rw [eqAs_eq _ _ e]
    exact laid_ROs (n := "selvedge/charref.names") (d := Rows.laid_selvedge_charref_names) (g := 3) (t := 157) (k := 8) («as» := g3) hS hm (by simp only [List.mem_cons]; simp) (by kernel_rfl) (by kernel_rfl) (davIs_eq dav3)
  · rw [eqAs_eq _ _ e]
    exact laid_ROs (n := "selvedge/charref.others") (d := Rows.laid_selvedge_charref_others) (g := 4) (t := 167) (k := 8) («as» := g4) hS hm (by simp only [List.mem_cons]; simp) (by kernel_rfl) (by kernel_rfl) (davIs_eq dav4)
end Go.Ab.Dirs
