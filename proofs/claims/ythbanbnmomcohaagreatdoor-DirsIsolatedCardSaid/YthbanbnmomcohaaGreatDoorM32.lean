/- The abstract machine, part 33: the laid variables of a row. -/
import Derived.Test.YthbanbnmomcohaaGreatDoorM16
set_option linter.all false
set_option linter.unusedSimpArgs false
namespace Go.Ab
open Go Go.RowKit

theorem laidMet_of_H {P : Program} {laid : List (String × DataW Unit)} {w : World} (h : laidMetH P laid w) (hn : laid.filter (fun x => x.2.handleName?.isSome) = []) : laidMet P laid w := by
  unfold laidMetH at h
  rw [hn] at h
  exact h

theorem laid_var {P : Program} {w : World} : ∀ {laid : List (String × DataW Unit)} {ps : List MemPlace}, DataW.LaidVars P w laid ps → ∀ x ∈ laid,
    ∃ g t cs fuel p, P.globalNamed x.1 = some g ∧ (P.globals[g]?).map (·.type) = some t ∧ w.var? P x.1 = some cs ∧ DataW.trod (fun _ => ()) P w 0 (fun _ => true) false fuel t cs.toList = some (x.2, p)
  | [], _, _, x, hx => by simp at hx
  | (n, d) :: r, ps, h, x, hx => by
    obtain ⟨g, t, cs, fuel, p, q, h1, h2, h3, h4, h5, _⟩ := h
    rcases List.mem_cons.1 hx with rfl | hx
    · exact ⟨g, t, cs, fuel, p, h1, h2, h3, h4⟩
    · exact laid_var h5 x hx

/-- One laid variable: its cells. -/
theorem laid_ROs {P : Program} {S : Stat} {w : World} {laid : List (String × DataW Unit)} (hS : OKS P S) (h : laidMet P laid w) {n : String} {d : DataW Unit} (hx : (n, d) ∈ laid) {g : Nat} {t : TypeId} {k : Nat} {as : List AVal}
    (hg : P.globalNamed n = some g) (ht : (P.globals[g]?).map (·.type) = some t) (hd : dav S.tt k t d = some as) : ROs w [] g 0 as := by
  obtain ⟨ps, hl, -⟩ := h
  obtain ⟨g', t', cs, fuel, p, h1, h2, h3, h4⟩ := laid_var hl _ hx
  rw [hg] at h1; cases h1
  rw [ht] at h2; cases h2
  obtain ⟨hv, -⟩ := trod_VRs hS fuel k t cs.toList d p as h4 hd
  refine ROs_of hv fun j v hj => ?_
  unfold World.var? at h3
  simp only [hg, Option.bind_some] at h3
  split at h3
  · rename_i c ty fr hh
    cases h3
    simp only [World.cell?, hh]
    simpa using hj
  · simp at h3

noncomputable def davIs (tt : Tr TI) (k : Nat) (t : TypeId) (d : DataW Unit) (as : List AVal) : Bool := match dav tt k t d with | some l => eqAs l as | none => false
theorem davIs_eq {tt : Tr TI} {k : Nat} {t : TypeId} {d : DataW Unit} {as : List AVal} (h : davIs tt k t d as = true) : dav tt k t d = some as := by
  unfold davIs at h
  split at h
  · rename_i l hl; rw [hl, eqAs_eq _ _ h]
  · simp at h
end Go.Ab
