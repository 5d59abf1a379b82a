/- dirs.scan: its closure. -/
import Derived.Test.YthbanbnmomcohaaGreatDoorP8
import Derived.Test.YthbanbnmomcohaaGreatDoorP9
import Derived.Test.YthbanbnmomcohaaGreatDoorP16
set_option maxRecDepth 10000
noncomputable section
namespace Go.Ab.Dirs
open Go Go.Ab

theorem decodeL_size {l : List Nat} (h : l ≠ []) : 1 ≤ (decodeL l).2 ∧ (decodeL l).2 ≤ l.length := by
  have hl : 1 ≤ l.length := by
    cases l with
    | nil => exact absurd rfl h
    | cons a l => simp
  unfold decodeL
  simp only [lenL_eq, Bool.and_eq_true, decide_eq_true_eq]
  repeat' split
  all_goals first | (constructor <;> simp only <;> omega) | skip

/-- What a class tells. -/
def clsW (c : Int) : Option Nat := if c = 1 then some 0 else if c = 2 then some 1 else if c = 3 then some 1 else none
/-- What the first strong character of a text tells. -/
def firstS : List Nat → Option Nat
  | [] => none
  | a :: l => match clsW (classS ((decodeL (a :: l)).1 : Int)) with
    | some w => some w
    | none => firstS (l.drop ((decodeL (a :: l)).2 - 1))
  termination_by s => s.length
  decreasing_by simp; omega
theorem firstS_nil : firstS [] = none := by unfold firstS; rfl
theorem firstS_some {l : List Nat} (h : l ≠ []) {w : Nat} (hw : clsW (classS ((decodeL l).1 : Int)) = some w) : firstS l = some w := by
  cases l with
  | nil => exact absurd rfl h
  | cons a l => unfold firstS; rw [hw]
theorem firstS_none {l : List Nat} (h : l ≠ []) (hw : clsW (classS ((decodeL l).1 : Int)) = none) : firstS l = firstS (l.drop (decodeL l).2) := by
  cases l with
  | nil => exact absurd rfl h
  | cons a l =>
    have := (decodeL_size h).1
    rw [firstS, hw]
    obtain ⟨m, hm⟩ : ∃ m, (decodeL (a :: l)).2 = m + 1 := ⟨(decodeL (a :: l)).2 - 1, by omega⟩
    rw [hm]; simp

def openS (n : ND) : Bool := decide (n.kind = 1) && (decide (n.name ≠ [98, 100, 105]) && decide (stateS n.attrs = 0))
def scanL (g : Nat → Option Nat) : List Int → Option Nat
  | [] => none
  | z :: l => match g z.toNat with
    | some w => some w
    | none => scanL g l
/-- What scanning tells, so many levels deep. -/
def scanF (t : List ND) : Nat → Nat → Option Nat
  | 0, _ => none
  | f + 1, i => scanL (fun k => match (if openS (t.getD k dN) then scanF t f k else none) with
    | some w => some w
    | none => firstS (t.getD k dN).data) (t.getD i dN).kids

/-- The variables of a scan. -/
structure Sc (σe σ : St) (bt bl bf bw : Nat) (tv : AVal) (o : Option Nat) : Prop where
  fr : Fr σe σ
  gt : ∃ f e, σ.get bt = some (.cells f e [tv])
  gl : ∃ f e, σ.get bl = some (.cells f e [.func 46 [] [.ptr bt 0, .ptr bl 0, .ptr bf 0, .ptr bw 0]])
  gf : ∃ f e, σ.get bf = some (.cells f e [.bool o.isSome])
  gw : ∃ f e, σ.get bw = some (.cells f e [.int .u8 ((o.getD 0 : Nat) : Int)])
  et : σe.next ≤ bt ∧ bt < σ.next
  el : σe.next ≤ bl ∧ bl < σ.next
  ef : σe.next ≤ bf ∧ bf < σ.next
  ew : σe.next ≤ bw ∧ bw < σ.next
  ne : bf ≠ bw ∧ bf ≠ bt ∧ bf ≠ bl ∧ bw ≠ bt ∧ bw ≠ bl

section
variable {σe : St} {bt bl bf bw : Nat} {tv : AVal}

theorem Sc.next {σ σ' : St} {o : Option Nat} (h : Sc σe σ bt bl bf bw tv o) (hf : Fr σ σ') : Sc σe σ' bt bl bf bw tv o := by
  obtain ⟨f1, ⟨a, b, gt⟩, ⟨c, d, gl⟩, ⟨e, f, gf⟩, ⟨g, i, gw⟩, h1, h2, h3, h4, h5⟩ := h
  have hn := hf.next
  refine ⟨f1.trans hf, ⟨a, b, ?_⟩, ⟨c, d, ?_⟩, ⟨e, f, ?_⟩, ⟨g, i, ?_⟩, ⟨h1.1, ?_⟩, ⟨h2.1, ?_⟩, ⟨h3.1, ?_⟩, ⟨h4.1, ?_⟩, h5⟩
  · rw [hf.get _ h1.2]; exact gt
  · rw [hf.get _ h2.2]; exact gl
  · rw [hf.get _ h3.2]; exact gf
  · rw [hf.get _ h4.2]; exact gw
  all_goals omega

/-- A block apart is written. -/
theorem Sc.putO {σ : St} {o : Option Nat} (h : Sc σe σ bt bl bf bw tv o) {b : Nat} (hb : σe.next ≤ b) (h1 : b ≠ bt) (h2 : b ≠ bl) (h3 : b ≠ bf) (h4 : b ≠ bw) (x : AObj) : Sc σe (σ.put b x) bt bl bf bw tv o := by
  obtain ⟨f1, ⟨a, b', gt⟩, ⟨c, d, gl⟩, ⟨e, f, gf⟩, ⟨g, i, gw⟩, k1, k2, k3, k4, k5⟩ := h
  refine ⟨f1.put hb _, ⟨a, b', ?_⟩, ⟨c, d, ?_⟩, ⟨e, f, ?_⟩, ⟨g, i, ?_⟩, k1, k2, k3, k4, k5⟩
  · rw [St.get_put_other _ _ (Ne.symm h1)]; exact gt
  · rw [St.get_put_other _ _ (Ne.symm h2)]; exact gl
  · rw [St.get_put_other _ _ (Ne.symm h3)]; exact gf
  · rw [St.get_put_other _ _ (Ne.symm h4)]; exact gw

/-- The answer is written. -/
theorem Sc.found {σ : St} {o : Option Nat} (h : Sc σe σ bt bl bf bw tv o) (w : Nat) : ∃ σ', Sc σe σ' bt bl bf bw tv (some w) ∧ σ.next ≤ σ'.next ∧
    (∀ c1 c2, σ.get bw = some c1 → (match c1 with | .cells f e _ => some (σ.put bw (.cells f e [.int .u8 (w : Int)])) | _ => none) = some c2 → ∃ f e, c2.get bf = some (.cells f e [.bool o.isSome]) ∧ σ' = c2.put bf (.cells f e [.bool true])) := by
  obtain ⟨f1, ⟨a, b', gt⟩, ⟨c, d, gl⟩, ⟨e, f, gf⟩, ⟨g, i, gw⟩, k1, k2, k3, k4, ⟨n1, n2, n3, n4, n5⟩⟩ := h
  refine ⟨(σ.put bw (.cells g i [.int .u8 (w : Int)])).put bf (.cells e f [.bool true]), ⟨(f1.put k4.1 _).put k3.1 _, ⟨a, b', ?_⟩, ⟨c, d, ?_⟩, ⟨e, f, ?_⟩, ⟨g, i, ?_⟩, k1, k2, k3, k4, ⟨n1, n2, n3, n4, n5⟩⟩, Nat.le_refl _, ?_⟩
  · rw [St.get_put_other _ _ (Ne.symm n2), St.get_put_other _ _ (Ne.symm n4)]; exact gt
  · rw [St.get_put_other _ _ (Ne.symm n3), St.get_put_other _ _ (Ne.symm n5)]; exact gl
  · rw [St.get_put_same]; rfl
  · rw [St.get_put_other _ _ (Ne.symm n1), St.get_put_same]; rfl
  · intro c1 c2 h1 h2
    rw [gw] at h1; cases h1
    simp only [Option.some.injEq] at h2
    subst h2
    exact ⟨e, f, by rw [St.get_put_other _ _ n1]; exact gf, rfl⟩

theorem opNext_s {T : Tab} {x : Opd} {env : Env} {σ : St} {b pos : Nat} {rest : List Nat} (hx : x.ev T env = .ptr b 0) (hg : σ.get b = some (.iter pos rest)) (hr : rest ≠ []) :
    ∃ p, opNext T false x env σ = some (.tuple [.bool true, .int .i64 (pos : Int), .int .i32 ((decodeL rest).1 : Int)], σ.put b (.iter p (rest.drop (decodeL rest).2))) := by
  obtain ⟨d1, d2⟩ := decodeL_size hr
  refine ⟨pos + (decodeL rest).2, ?_⟩
  unfold opNext
  simp only [hx, hg, Bool.false_eq_true, if_false]
  cases rest with
  | nil => exact absurd rfl hr
  | cons a l =>
    simp only
    rw [dropX_eq.2 ⟨d2, rfl⟩]
    simp only [forceI_eq, St.putK_eq, Int.ofNat_eq_natCast, Int.toNat_natCast]
theorem opNext_0 {T : Tab} {x : Opd} {env : Env} {σ : St} {b pos : Nat} (hx : x.ev T env = .ptr b 0) (hg : σ.get b = some (.iter pos [])) : opNext T false x env σ = some (.tuple [.bool false], σ) := by
  unfold opNext
  simp only [hx, hg, Bool.false_eq_true, if_false]
end
end Go.Ab.Dirs
end
