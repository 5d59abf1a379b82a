/- DirsSays of selvedgelaw10 returns true for every tree and number, and leaves its arguments as they were.
   Conditions: the package variables that the row lists begin as the program's text lays them (the card ties them). -/
import Derived.Test.YthbanbnmomcohaaGreatDoorArgs
import Derived.Test.YthbanbnmomcohaaGreatDoorG
import Derived.Test.YthbanbnmomcohaaGreatDoorP31
import Derived.Test.YthbanbnmomcohaaGreatDoorWit
import Derived.Test.YthbanbnmomcohaaGreatDoorCards
import Derived.Test.YthbanbnmomcohaaGreatDoorTie
import Derived.WalkKit
import Derived.ProofKit
import Derived.OpenShut
import Derived.Deep.DeepHandedRow
import Derived.Lib.LaidTab
import Derived.ReadAgain
set_option maxRecDepth 100000
noncomputable section
namespace Go.Proofs.YthbanbnmomcohaaGreatDoor.Laws
open Go Go.Ab Go.Ab.Dirs Go.ChangeShapes Go.WideShapes Go.ChangeAt Go.RowKit

theorem own : ownKnob Tryz.prog.godebug = none := by kernel_rfl
theorem kids : Kids Tryz.prog (· < Tryz.prog.types.size) := kids_rows (by kernel_rfl) (by kernel_rfl)
theorem full : ∀ t e, t < Tryz.prog.types.size → Tryz.prog.underlying t = some (.slice e) → 0 < Tryz.prog.cellsOf e := slices_full_of _ (by kernel_rfl)

section
variable {H : Type} {enc : TypeId × Value → H} {W W' : World}
theorem trod_below {t : TypeId} (ht : t < Tryz.prog.types.size) {v : Value} {d : DataW H} {p : List MemPlace} (h : DataW.Trod enc Tryz.prog W 0 (fun _ => true) true t v d p) (hb : Below W.heap.size W W') (hp : ∀ x ∈ p, x.block < W.heap.size) :
    DataW.Trod enc Tryz.prog W' 0 (fun b => decide (b < W.heap.size)) true t v d p := by
  obtain ⟨fuel, hf⟩ := h
  have h2 : DataW.Trod enc Tryz.prog W' 0 (fun _ => true) true t v d p := ⟨fuel, DataW.trod_carry _ _ _ _ hf fun x hx => hb.same (hp x hx)⟩
  exact h2.respare kids full ht fun x hx => by simpa using hp x hx

theorem trodAll_below : ∀ {ts : List TypeId} {vs : List Value} {ds : List (DataW H)} {p : List MemPlace}, (∀ t ∈ ts, t < Tryz.prog.types.size) → DataW.TrodAll enc Tryz.prog W 0 (fun _ => true) true ts vs ds p → Below W.heap.size W W' → (∀ x ∈ p, x.block < W.heap.size) →
    DataW.TrodAll enc Tryz.prog W' 0 (fun b => decide (b < W.heap.size)) true ts vs ds p
  | [], [], [], _, _, h, _, _ => h
  | _ :: _, _ :: _, _ :: _, _, ht, ⟨p, q, h1, h2, e⟩, hb, hp =>
    ⟨p, q, trod_below (ht _ (List.mem_cons_self)) h1 hb (fun x hx => hp x (by rw [e]; exact List.mem_append_left _ hx)), trodAll_below (fun t h => ht t (List.mem_cons_of_mem _ h)) h2 hb (fun x hx => hp x (by rw [e]; exact List.mem_append_right _ hx)), e⟩

/-- What a law leaves: true, and all as it was. -/
theorem law_post {f : Func} {s : ChangeSpec} {args : Array Value} {ds gs : List (DataW H)} {before : List MemPlace} (hW : DataW.Whole enc Tryz.prog f.params.toList s.vars false W args.toList ds gs before)
    (hv : s.vars = []) (hp : ∀ t ∈ f.params.toList, t < Tryz.prog.types.size) (hr : f.resultTypes = #[4]) (hs : s.fn H ds = { results := [.lit (.bool true)], args := ds }) (hb : Below W.heap.size W W') :
    s.post enc Tryz.prog f false true false false W args (.bool true) W' := by
  have hlt := hW.lt
  have hW' := hW
  obtain ⟨p, q, hA, hV, rfl, hfz, hnd⟩ := hW
  rw [hv] at hV
  have hgs : gs = [] ∧ q = [] := by
    cases gs with
    | nil => exact ⟨rfl, hV⟩
    | cons g gs => exact absurd hV id
  obtain ⟨rfl, rfl⟩ := hgs
  refine ⟨ds, [], p ++ [], [], p, [], hW', ?_, ?_, ?_, hb.frame _, fun h => by cases h⟩
  · rw [List.append_nil, hs, hr]
    exact trodAll_cons_mk (shut_bool Tryz.underlying4 true) trodAll_mk0
  · rw [List.append_nil, hs]
    exact trodAll_below hp hA hb fun x hx => hlt x (List.mem_append_left _ hx)
  · rw [hv, List.append_nil, hs]; exact rfl
end

/-- A run of the machine from nothing, as a law's call. -/
theorem law_calls {f : Nat} {W : World} (hL : Laid W) {l : List AVal} {xs : List Value} (hxs : VRs W [] l xs) {σ' : St} (h : Cw TS false f l st0 = some (.bool true, σ')) :
    Calls Tryz.prog f xs.toArray W fun e w' => e = .returned (.bool true) ∧ Below W.heap.size W w' := by
  refine (calls_of_run (Cw_okS W hL) h hxs).mono ?_
  rintro e w' ⟨ν, x, rfl, hx, hrel⟩
  simp only [VR] at hx
  subst hx
  exact ⟨rfl, hrel.below⟩

theorem says_contract (H : Type) (enc : TypeId × Value → H) (W : World) (base : Nat) (args : Array Value) (ds gs : List (DataW H)) (before : List MemPlace)
    (hval : ∀ (j : Nat) t v, Tryz.f4.params[j]? = some t → args[j]? = some v → Value.okWide Tryz.prog W .any base t v)
    (hW : DataW.Whole enc Tryz.prog Tryz.f4.params.toList Rows.dirsSaysSpec.vars false W args.toList ds gs before) (hL : laidMetH Tryz.prog Rows.dirsSaysRow.laid W) :
    Calls Tryz.prog 4 args W fun e W' => ∃ v, e = .returned v ∧ Rows.dirsSaysSpec.post enc Tryz.prog Tryz.f4 false true false false W args v W' := by
  have hW' := hW
  obtain ⟨p, q, hA, hV, rfl, hfz, hnd⟩ := hW
  rw [Tryz.params4] at hA hval
  obtain ⟨v0, vs0, d0, ds0, p0, q0, hargs, rfl, rfl, h0, r0⟩ := trodAll_cons hA
  obtain ⟨v1, vs1, d1, ds1, p1, q1, rfl, rfl, rfl, h1, r1⟩ := trodAll_cons r0
  obtain ⟨rfl, rfl, rfl⟩ := trodAll_nil r1
  obtain rfl : args = #[v0, v1] := by cases args; simp_all
  obtain ⟨a, t, hva, ht, hwf, hb⟩ := tree_arg (hval 0 23 v0 rfl rfl) h0
  obtain ⟨n, rfl, rfl, rfl, hn⟩ := open_int Tryz.underlying3 (hval 1 3 v1 rfl rfl) h1
  have hn' : -9223372036854775808 ≤ n ∧ n < 9223372036854775808 := by
    simp only [Lit.wf, Bool.and_eq_true, decide_eq_true_eq] at hn
    have e1 : IntKind.min .i64 = -9223372036854775808 := by kernel_rfl
    have e2 : IntKind.max .i64 = 9223372036854775807 := by kernel_rfl
    omega
  obtain ⟨σ', hrun⟩ := DirsSays_true (ht st0) hwf hb n hn'
  have hxs : VRs W [] [a, .int .i64 n] [v0, .int .i64 n] := ⟨_, _, rfl, hva, _, _, rfl, by simp [VR], rfl⟩
  refine (law_calls (laid_of_row W hL) hxs hrun).mono ?_
  rintro e w' ⟨rfl, hbw⟩
  exact ⟨_, rfl, law_post hW' rfl (by rw [Tryz.params4]; decide) (by kernel_rfl) rfl hbw⟩

theorem reads (os : Os) {H : Type} (enc : TypeId × Value → H) : ∃ places, DataW.whole enc Tryz.prog ((laidWorld os).forCall (fun _ _ => 0) ⟨#[], #[.slice none 0 0, .int .i64 0], []⟩).memory Tryz.f4.params.toList Rows.dirsSaysSpec.vars false #[Value.slice none 0 0, .int .i64 0].toList 8 = some ([.nil, .lit (.int .i64 0)], [], places) :=
  ⟨[], by kernel_rfl⟩

set_option maxRecDepth 100000 in
theorem says_lifted (os : Os) (started : os.Started) (H : Type) (enc : TypeId × Value → H) (F : Stop.Interp) :
    ReturnsInHanded {} Tryz.checked os 4 .any ((OpenSpec.ofChange Rows.dirsSaysSpec).preRow enc Tryz.prog Tryz.f4 Rows.dirsSaysRow.domain false Rows.dirsSaysRow.laid) (((OpenSpec.ofChange Rows.dirsSaysSpec).at F).post enc Tryz.prog Tryz.f4 false true false false) := by
  obtain ⟨places, hx⟩ := reads os enc
  refine returnsInHanded_of_row (C := Tryz.checked) (s := OpenSpec.ofChange Rows.dirsSaysSpec) own started (by kernel_rfl) Tryz.func4
    (witness_row_at (enc := enc) (C := Tryz.checked) false (laidWorld os) #[.slice none 0 0, .int .i64 0] rfl (by kernel_rfl) (by kernel_rfl) (by kernel_rfl)
      (OpenSpec.preRow_of_cond 8 hx (by kernel_rfl) (fun k hk => by cases hk) (by kernel_rfl) (laid_met os _))) ?_
  intro W base args ds gs before hval hW _ _ _ hL _ _
  exact says_contract H enc W base args ds gs before hval hW hL

theorem says_said : Rows.DirsSaysSaid :=
  OpenClaim.holds_of_cond 4 Tryz.f4 rfl rfl rfl rfl rfl rfl rfl ⟨rfl, rfl, rfl, rfl, rfl⟩ rfl rfl rfl rfl rfl (by kernel_rfl) Tryz.func4 (by kernel_rfl)
    (of_decide_eq_true (by kernel_rfl)) (by unfold Func.isWrapper; first | (rw [if_pos (by decide +kernel)]; kernel_rfl) | (rw [if_neg (by decide +kernel)]; exact ⟨rfl, rfl⟩))
    (fun os started H enc _ F => by rw [OpenClaim.pre_eq_preRow]; exact says_lifted os started H enc F)

theorem says_plain (f : FuncId) (fn : Func) (hf : Tryz.pinned.checked.prog.funcNamed "selvedge/selvedgelaw10.DirsSays" = some f) (hfn : Tryz.pinned.checked.prog.funcs[f]? = some fn) :
    false = Tryz.pinned.checked.prog.looks [] ∧ ∀ (j : Nat) t, fn.params[j]? = some t → Tryz.pinned.checked.prog.wantsStandIn t = false := by
  obtain rfl : f = 4 := Option.some.inj ((show Tryz.prog.funcNamed "selvedge/selvedgelaw10.DirsSays" = some 4 by kernel_rfl).symm.trans hf) |>.symm
  obtain rfl : fn = Tryz.f4 := (Option.some.inj (Tryz.func4.symm.trans hfn)).symm
  refine ⟨by kernel_rfl, fun j t ht => ?_⟩
  rw [Tryz.params4] at ht
  have hm := Array.mem_of_getElem? ht
  simp only [List.mem_toArray, List.mem_cons, List.not_mem_nil, or_false] at hm
  rcases hm with rfl | rfl
  · exact (show Tryz.prog.wantsStandIn 23 = false by kernel_rfl)
  · exact (show Tryz.prog.wantsStandIn 3 = false by kernel_rfl)

/-- THE CARD. -/
theorem says_card : Rows.DirsSaysCardSaid :=
  Claim7.holds_tied_plain_at .later [] _ _ _ _ says_said (fun _ h => by cases h) (by kernel_rfl) (fun _ h => by cases h) dirsSays_row_tie rfl ⟨rfl, rfl⟩ (by kernel_rfl) rfl says_plain (by kernel_rfl)
end Go.Proofs.YthbanbnmomcohaaGreatDoor.Laws
end
