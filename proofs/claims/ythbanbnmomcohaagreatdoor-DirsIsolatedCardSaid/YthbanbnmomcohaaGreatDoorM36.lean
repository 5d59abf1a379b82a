/- What each law of selvedgelaw10 needs: a run of the machine as a law's call, what a law leaves. -/
import Derived.Test.YthbanbnmomcohaaGreatDoorM30
import Derived.Test.YthbanbnmomcohaaGreatDoorM33
import Derived.Test.YthbanbnmomcohaaGreatDoorM34
import Derived.Test.YthbanbnmomcohaaGreatDoorM35
import Derived.Test.YthbanbnmomcohaaGreatDoorCards
import Derived.Test.YthbanbnmomcohaaGreatDoorTie
import Derived.WalkKit
import Derived.ProofKit
import Derived.OpenShut
import Derived.Deep.DeepHandedRow
import Derived.Lib.LaidTab
import Derived.ReadAgain
set_option linter.all false
set_option linter.unusedSimpArgs false
set_option maxRecDepth 100000
noncomputable section
namespace Go.Proofs.YthbanbnmomcohaaGreatDoor.Laws
open Go Go.Ab Go.Ab.Dirs Go.ChangeShapes Go.WideShapes Go.ChangeAt Go.RowKit

theorem own : ownKnob Tryz.prog.godebug = none := by kernel_rfl
theorem kids : Kids Tryz.prog (· < Tryz.prog.types.size) := kids_rows (by kernel_rfl) (by kernel_rfl)
theorem full : ∀ t e, t < Tryz.prog.types.size → Tryz.prog.underlying t = some (.slice e) → 0 < Tryz.prog.cellsOf e := slices_full_of _ (by kernel_rfl)

section
variable {H : Type} {enc : TypeId × Value → H} {W W' : World}
theorem trod_below {t : TypeId} (ht : t < Tryz.prog.types.size) {v : Value} {d : DataW H} {p : List MemPlace} (h : DataW.Trod enc Tryz.prog W 0 (fun _ => true) true t v d p) (hb : Below W.heap.size W W') (hp : ∀ x ∈ p, x.block < W.heap.size) :
    DataW.Trod enc Tryz.prog W' 0 (fun b => decide (b < W.heap.size)) true t v d p := by
  obtain ⟨fuel, hf⟩ := h
  have h2 : DataW.Trod enc Tryz.prog W' 0 (fun _ => true) true t v d p := ⟨fuel, DataW.trod_carry _ _ _ _ hf fun x hx => hb.same (hp x hx)⟩
  exact h2.respare kids full ht fun x hx => by simpa using hp x hx

theorem trodAll_below : ∀ {ts : List TypeId} {vs : List Value} {ds : List (DataW H)} {p : List MemPlace}, (∀ t ∈ ts, t < Tryz.prog.types.size) → DataW.TrodAll enc Tryz.prog W 0 (fun _ => true) true ts vs ds p → Below W.heap.size W W' → (∀ x ∈ p, x.block < W.heap.size) →
    DataW.TrodAll enc Tryz.prog W' 0 (fun b => decide (b < W.heap.size)) true ts vs ds p
  | [], [], [], _, _, h, _, _ => h
  | _ :: _, _ :: _, _ :: _, _, ht, ⟨p, q, h1, h2, e⟩, hb, hp =>
    ⟨p, q, trod_below (ht _ (List.mem_cons_self)) h1 hb (fun x hx => hp x (by rw [e]; exact List.mem_append_left _ hx)), trodAll_below (fun t h => ht t (List.mem_cons_of_mem _ h)) h2 hb (fun x hx => hp x (by rw [e]; exact List.mem_append_right _ hx)), e⟩

/-- What a law leaves: true, and all as it was. -/
theorem law_post {f : Func} {s : ChangeSpec} {args : Array Value} {ds gs : List (DataW H)} {before : List MemPlace} (hW : DataW.Whole enc Tryz.prog f.params.toList s.vars false W args.toList ds gs before)
    (hv : s.vars = []) (hp : ∀ t ∈ f.params.toList, t < Tryz.prog.types.size) (hr : f.resultTypes = #[4]) (hs : s.fn H ds = { results := [.lit (.bool true)], args := ds }) (hb : Below W.heap.size W W') :
    s.post enc Tryz.prog f false true false false W args (.bool true) W' := by
  have hlt := hW.lt
  have hW' := hW
  obtain ⟨p, q, hA, hV, rfl, hfz, hnd⟩ := hW
  rw [hv] at hV
  have hgs : gs = [] ∧ q = [] := by
    cases gs with
    | nil => exact ⟨rfl, hV⟩
    | cons g gs => exact absurd hV id
  obtain ⟨rfl, rfl⟩ := hgs
  refine ⟨ds, [], p ++ [], [], p, [], hW', ?_, ?_, ?_, hb.frame _, fun h => by cases h⟩
  · rw [List.append_nil, hs, hr]
    exact trodAll_cons_mk (shut_bool Tryz.underlying4 true) trodAll_mk0
  · rw [List.append_nil, hs]
    exact trodAll_below hp hA hb fun x hx => hlt x (List.mem_append_left _ hx)
  · rw [hv, List.append_nil, hs]; exact rfl
end

/-- A run of the machine from nothing, as a law's call. -/
theorem law_calls {f : Nat} {W : World} (hL : Laid W) {l : List AVal} {xs : List Value} (hxs : VRs W [] l xs) {σ' : St} (h : Cw TS false f l st0 = some (.bool true, σ')) :
    Calls Tryz.prog f xs.toArray W fun e w' => e = .returned (.bool true) ∧ Below W.heap.size W w' := by
  refine (calls_of_run (Cw_okS W hL) h hxs).mono ?_
  rintro e w' ⟨ν, x, rfl, hx, hrel⟩
  simp only [VR] at hx
  subst hx
  exact ⟨rfl, hrel.below⟩

end Go.Proofs.YthbanbnmomcohaaGreatDoor.Laws
end
