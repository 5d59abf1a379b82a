/- The abstract machine: works() stands for its answer. -/
import Derived.Test.YthbanbnmomcohaaGreatDoorM31
set_option linter.all false
set_option linter.unusedSimpArgs false
noncomputable section
namespace Go.Ab.Dirs
open Go Go.Ab Go.Proofs Go.RowKit

def plainA : List AVal → Bool
  | [] => true
  | .int _ _ :: l => plainA l
  | .bool _ :: l => plainA l
  | .str _ :: l => plainA l
  | _ :: _ => false

theorem ROs_moved {W w : World} {ν ν' : List Place} (hb : Below W.heap.size W w) {r : Nat} : ∀ {cs : List AVal} {o : Nat}, plainA cs = true → ROs W ν r o cs → ROs w ν' r o cs
  | [], _, _, _ => by simp [ROs]
  | a :: cs, o, hp, h => by
    obtain ⟨⟨x, hx, hax⟩, h2⟩ := h
    have hlt : r < W.heap.size := by
      unfold World.cell? at hx
      cases hh : W.heap[r]? with
      | none => simp [hh] at hx
      | some o => exact (Array.getElem?_eq_some_iff.1 hh).1
    have hx' : w.cell? ⟨r, o, none⟩ = some x := by rw [hb.cell hlt]; exact hx
    cases a <;> simp only [plainA, Bool.false_eq_true] at hp
    · exact ⟨⟨x, hx', by simpa using hax⟩, ROs_moved hb hp h2⟩
    · exact ⟨⟨x, hx', by simpa using hax⟩, ROs_moved hb hp h2⟩
    · exact ⟨⟨x, hx', by simpa [VR] using hax⟩, ROs_moved hb hp h2⟩

theorem glob_plain : Tr.all (fun _ cs => plainA cs) [] T.glob = true := by decide +kernel
theorem Laid.moved {W w : World} (h : Laid W) (hb : Below W.heap.size W w) : Laid w := fun g cs hg => ROs_moved hb (Tr.all_path glob_plain hg) (h g cs hg)

theorem enters10 : Enters Tryz.prog 10 := ⟨Tryz.f10, Tryz.func10, by kernel_rfl, by kernel_rfl⟩
theorem fn10 : TS.fn.get (path 10) = some ⟨0, [.tmp (path 0)], .seq (.region false [⟨some (path 0), .mov (.c (.bool true)), none, .pure⟩]) .ret⟩ := by kernel_rfl
theorem run10 (q : Bool) (σ : St) : Cw TS q 10 [] σ = some (.bool true, σ) := Cw_iff.2 ⟨5, by kernel_rfl⟩

theorem Rel.kept {W : World} {ν : List Place} {σ : St} {w w' : World} (h : Rel W ν σ w) (hb : Below w.heap.size w w') : Rel W ν σ w' := by
  refine ⟨h.below.trans (hb.mono h.below.size), h.next, fun b o hg => ?_, h.apart⟩
  obtain ⟨p, h1, h2, h3⟩ := h.live b o hg
  exact ⟨p, h1, h2, h3.mono List.prefix_rfl (hb.block _ h3.some)⟩

theorem stub_ok (W : World) (hL : Laid W) (k : Nat) : CFokF Tryz.prog W (call SS.tab k) 10 := by
  intro q args σ v σ' hc
  refine ⟨enters10, fun ν w xs hxs hrel => ?_⟩
  have hc2 := call_le TS k _ _ _ _ _ hc
  have ha : args = [] := by
    have hc3 := hc2
    simp only [Cw, callF, fn10] at hc3
    split at hc3
    · rename_i h; rw [lenL_eq] at h; exact List.eq_nil_of_length_eq_zero h
    · simp at hc3
  subst ha
  rw [run10] at hc2
  simp only [Option.some.injEq, Prod.mk.injEq] at hc2
  obtain ⟨rfl, rfl⟩ := hc2
  have hx : xs = [] := by simpa [VRs] using hxs
  subst hx
  refine (works_true w (hL.moved hrel.below)).mono ?_
  rintro e w' ⟨rfl, hb⟩
  exact ⟨ν, _, List.prefix_rfl, rfl, by simp [VR], Rel.kept hrel hb⟩

theorem baseS (W : World) (h : Laid W) : Base Tryz.prog SS W := ⟨OKS.of tt_ok, CastsOK.of casts_ok, h, exts_ok⟩
theorem Cw_okS (W : World) (h : Laid W) : CFok Tryz.prog W (Cw TS) :=
  Cw_ok (S := SS) (Checked.mixed Tryz.checked) (baseS W h) (TabOK.of [10] tabS_ok (fun f hf k => by
    simp only [List.mem_cons, List.not_mem_nil, or_false] at hf
    subst hf
    exact stub_ok W h k))
end Go.Ab.Dirs
end
