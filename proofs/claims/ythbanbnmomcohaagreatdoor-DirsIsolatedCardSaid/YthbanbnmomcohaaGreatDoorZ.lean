/- DirsIsolated of selvedgelaw10 returns true for every tree, number and text, and leaves its arguments as they were.
   Conditions: the package variables that the row lists begin as the program's text lays them (the card ties them). -/
import Derived.Test.YthbanbnmomcohaaGreatDoorM36
import Derived.Test.YthbanbnmomcohaaGreatDoorM39
set_option linter.all false
set_option linter.unusedSimpArgs false
set_option maxRecDepth 100000
noncomputable section
namespace Go.Proofs.YthbanbnmomcohaaGreatDoor.Laws
open Go Go.Ab Go.Ab.Dirs Go.ChangeShapes Go.WideShapes Go.ChangeAt Go.RowKit

theorem str_arg {H : Type} {enc : TypeId × Value → H} {sp : Nat → Bool} {held : Bool} {W : World} {base : Nat} {v : Value} {d : DataW H} {p : List MemPlace} (hv : Value.okWide Tryz.prog W .any base 9 v) (h : DataW.Trod enc Tryz.prog W 0 sp held 9 v d p) : ∃ w, VR W [] (.str w) v ∧ SWF w := by
  obtain ⟨b, rfl⟩ := Go.WideShapes.okWide_string Tryz.underlying9 hv
  obtain ⟨fuel, hf⟩ := h
  obtain ⟨bs, rfl, hl⟩ := trod_str hf
  have hS := OKS.of (P := Tryz.prog) (S := SS) tt_ok
  obtain ⟨hvr, -⟩ := trod_VRs hS fuel 1 9 _ _ p [.str (bN bs)] hf (dav_str 0 bs)
  refine ⟨bN bs, ?_, bN_wf hl⟩
  have hc : (Value.string b).cells.toList = [.string b] := rfl
  rw [hc] at hvr
  obtain ⟨y, ys, e, hy, -⟩ := hvr
  cases e
  exact hy
theorem isolated_contract (H : Type) (enc : TypeId × Value → H) (W : World) (base : Nat) (args : Array Value) (ds gs : List (DataW H)) (before : List MemPlace)
    (hval : ∀ (j : Nat) t v, Tryz.f7.params[j]? = some t → args[j]? = some v → Value.okWide Tryz.prog W .any base t v)
    (hW : DataW.Whole enc Tryz.prog Tryz.f7.params.toList Rows.dirsIsolatedSpec.vars false W args.toList ds gs before)
    (hwt : (DataW.weightsEach Tryz.prog (Tryz.f7.params.toList ++ (OpenSpec.ofChange Rows.dirsIsolatedSpec).bare.plain.varTypes Tryz.prog) (ds ++ gs)).all (· ≤ reachBytes) = true) (hL : laidMetH Tryz.prog Rows.dirsIsolatedRow.laid W) :
    Calls Tryz.prog 7 args W fun e W' => ∃ v, e = .returned v ∧ Rows.dirsIsolatedSpec.post enc Tryz.prog Tryz.f7 false true false false W args v W' := by
  have hW' := hW
  obtain ⟨p, q, hA, hV, rfl, hfz, hnd⟩ := hW
  rw [Tryz.params7] at hA hval hwt
  obtain ⟨v0, vs0, d0, ds0, p0, q0, hargs, rfl, rfl, h0, r0⟩ := trodAll_cons hA
  obtain ⟨v1, vs1, d1, ds1, p1, q1, rfl, rfl, rfl, h1, r1⟩ := trodAll_cons r0
  obtain ⟨v2, vs2, d2, ds2, p2, q2, rfl, rfl, rfl, h2, r2⟩ := trodAll_cons r1
  obtain ⟨rfl, rfl, rfl⟩ := trodAll_nil r2
  obtain rfl : args = #[v0, v1, v2] := by cases args; simp_all
  have hw0 : ∀ w ∈ d0.weights Tryz.prog 23, w ≤ reachBytes := by
    intro w hw
    have h2 := List.all_eq_true.1 hwt w (by
      simp only [List.cons_append, DataW.weightsEach]
      exact List.mem_append_left _ hw)
    simpa using h2
  obtain ⟨a, t, hva, ht, hwf, hb, hB⟩ := tree_argW (hval 0 23 v0 rfl rfl) h0 hw0
  obtain ⟨n, rfl, rfl, rfl, hn⟩ := open_int Tryz.underlying3 (hval 1 3 v1 rfl rfl) h1
  have hn' : -9223372036854775808 ≤ n ∧ n < 9223372036854775808 := by
    simp only [Lit.wf, Bool.and_eq_true, decide_eq_true_eq] at hn
    have e1 : IntKind.min .i64 = -9223372036854775808 := by kernel_rfl
    have e2 : IntKind.max .i64 = 9223372036854775807 := by kernel_rfl
    omega
  obtain ⟨w, hvw, hw⟩ := str_arg (hval 2 9 v2 rfl rfl) h2
  obtain ⟨v, σ', hrun, rfl⟩ := CW_iff.1 (DirsIsolated_true (ht st0) hwf hB n hn' hw)
  have hxs : VRs W [] [a, .int .i64 n, .str w] [v0, .int .i64 n, v2] := ⟨_, _, rfl, hva, _, _, rfl, by simp [VR], _, _, rfl, hvw, rfl⟩
  refine (law_calls (laid_of_row W hL) hxs hrun).mono ?_
  rintro e w' ⟨rfl, hbw⟩
  exact ⟨_, rfl, law_post hW' rfl (by rw [Tryz.params7]; decide) (by kernel_rfl) rfl hbw⟩

theorem reads (os : Os) {H : Type} (enc : TypeId × Value → H) : ∃ places, DataW.whole enc Tryz.prog ((laidWorld os).forCall (fun _ _ => 0) ⟨#[], #[.slice none 0 0, .int .i64 0, .string ⟨#[]⟩], []⟩).memory Tryz.f7.params.toList Rows.dirsIsolatedSpec.vars false #[Value.slice none 0 0, .int .i64 0, .string ⟨#[]⟩].toList 8 = some ([.nil, .lit (.int .i64 0), .lit (.string [])], [], places) :=
  ⟨[], by kernel_rfl⟩

set_option maxRecDepth 100000 in
theorem isolated_lifted (os : Os) (started : os.Started) (H : Type) (enc : TypeId × Value → H) (F : Stop.Interp) :
    ReturnsInHanded {} Tryz.checked os 7 .any ((OpenSpec.ofChange Rows.dirsIsolatedSpec).preRow enc Tryz.prog Tryz.f7 Rows.dirsIsolatedRow.domain false Rows.dirsIsolatedRow.laid) (((OpenSpec.ofChange Rows.dirsIsolatedSpec).at F).post enc Tryz.prog Tryz.f7 false true false false) := by
  obtain ⟨places, hx⟩ := reads os enc
  refine returnsInHanded_of_row (C := Tryz.checked) (s := OpenSpec.ofChange Rows.dirsIsolatedSpec) own started (by kernel_rfl) Tryz.func7
    (witness_row_at (enc := enc) (C := Tryz.checked) false (laidWorld os) #[.slice none 0 0, .int .i64 0, .string ⟨#[]⟩] rfl (by kernel_rfl) (by kernel_rfl) (by kernel_rfl)
      (OpenSpec.preRow_of_cond 8 hx (by kernel_rfl) (fun k hk => by cases hk) (by kernel_rfl) (laid_met os _))) ?_
  intro W base args ds gs before hval hW _ _ hwt hL _ _
  exact isolated_contract H enc W base args ds gs before hval hW hwt hL

theorem isolated_said : Rows.DirsIsolatedSaid :=
  OpenClaim.holds_of_cond 7 Tryz.f7 rfl rfl rfl rfl rfl rfl rfl ⟨rfl, rfl, rfl, rfl, rfl⟩ rfl rfl rfl rfl rfl (by kernel_rfl) Tryz.func7 (by kernel_rfl)
    (of_decide_eq_true (by kernel_rfl)) (by unfold Func.isWrapper; first | (rw [if_pos (by decide +kernel)]; kernel_rfl) | (rw [if_neg (by decide +kernel)]; exact ⟨rfl, rfl⟩))
    (fun os started H enc _ F => by rw [OpenClaim.pre_eq_preRow]; exact isolated_lifted os started H enc F)

theorem isolated_plain (f : FuncId) (fn : Func) (hf : Tryz.pinned.checked.prog.funcNamed "selvedge/selvedgelaw10.DirsIsolated" = some f) (hfn : Tryz.pinned.checked.prog.funcs[f]? = some fn) :
    false = Tryz.pinned.checked.prog.looks [] ∧ ∀ (j : Nat) t, fn.params[j]? = some t → Tryz.pinned.checked.prog.wantsStandIn t = false := by
  obtain rfl : f = 7 := Option.some.inj ((show Tryz.prog.funcNamed "selvedge/selvedgelaw10.DirsIsolated" = some 7 by kernel_rfl).symm.trans hf) |>.symm
  obtain rfl : fn = Tryz.f7 := (Option.some.inj (Tryz.func7.symm.trans hfn)).symm
  refine ⟨by kernel_rfl, fun j t ht => ?_⟩
  rw [Tryz.params7] at ht
  have hm := Array.mem_of_getElem? ht
  simp only [List.mem_toArray, List.mem_cons, List.not_mem_nil, or_false] at hm
  rcases hm with rfl | rfl | rfl
  · exact (show Tryz.prog.wantsStandIn 23 = false by kernel_rfl)
  · exact (show Tryz.prog.wantsStandIn 3 = false by kernel_rfl)
  · exact (show Tryz.prog.wantsStandIn 9 = false by kernel_rfl)

/-- THE CARD. -/
theorem isolated_card : Rows.DirsIsolatedCardSaid :=
  Claim7.holds_tied_plain_at .later [] _ _ _ _ isolated_said (fun _ h => by cases h) (by kernel_rfl) (fun _ h => by cases h) dirsIsolated_row_tie rfl ⟨rfl, rfl⟩ (by kernel_rfl) rfl isolated_plain (by kernel_rfl)
end Go.Proofs.YthbanbnmomcohaaGreatDoor.Laws
end
