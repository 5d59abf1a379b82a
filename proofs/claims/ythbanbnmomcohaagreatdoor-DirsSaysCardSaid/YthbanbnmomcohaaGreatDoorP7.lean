/- tree: attributes that may be. -/
import Derived.Test.YthbanbnmomcohaaGreatDoorP5
import Derived.Test.YthbanbnmomcohaaGreatDoorP6
set_option maxRecDepth 10000
noncomputable section
namespace Go.Ab.Dirs
open Go Go.Ab

/-- A string of the program. -/
def SWF (s : List Nat) : Prop := (∀ c ∈ s, c < 256) ∧ s.length < 9223372036854775808

def attrOK (pre : List AttrD) (a : AttrD) : Bool := namedS a.1 && (wellS a.2 && !hasN a.1 pre)
def attrsOK : List AttrD → List AttrD → Bool
  | _, [] => true
  | pre, a :: l => attrOK pre a && attrsOK (pre ++ [a]) l
/-- May these be an element's attributes? -/
def attrsS (l : List AttrD) : Bool := attrsOK [] l && decide (l.length ≤ 16)

theorem attrs_loop (v : AVal) (l : List AttrD) (hb : l.length < 9223372036854775808) (hwf : ∀ a ∈ l, SWF a.1 ∧ SWF a.2) : ∀ (m i : Nat) (env : Env) (σ : St) (r : Option (Out × Env × St)), Ew TS false (.loop L43_1) env σ = r → i + m = l.length → AttrsI σ v l →
    V env 0 = v → V env 5 = v → V env 6 = .int .i64 l.length → V env 7 = .int .i64 i →
    ∃ e σ', Fr σ σ' ∧ ((attrsOK (l.take i) (l.drop i) = true ∧ r = some (.exit 0, e, σ') ∧ V e 0 = v) ∨ (attrsOK (l.take i) (l.drop i) = false ∧ r = some (.ret, e, σ') ∧ V e 2 = .bool false))
  | 0, i, env, σ, r, hr, hi, hv, h0, h5, h6, h7 => by
    have hlt : ¬ ((i : Int) < (l.length : Int)) := by omega
    rw [Ew_loop] at hr
    simp only [L43_1, sC, reduceIte, stepOp, opArith, arith, sO, h6, h7, hlt] at hr
    refine ⟨_, _, Fr.refl _, .inl ⟨?_, hr.symm, by simp only [V_U, Nat.reduceEqDiff, reduceIte, h0]⟩⟩
    rw [List.drop_eq_nil_of_le (by omega)]; rfl
  | m + 1, i, env, σ, r, hr, hi, hv, h0, h5, h6, h7 => by
    have hlt : ((i : Int) < (l.length : Int)) := by omega
    have his : i < l.length := by omega
    obtain ⟨g1, g2⟩ := hv.get his (k := .i64)
    have hw : wrapI .i64 ((i : Int) + 1) = ((i + 1 : Nat) : Int) := by rw [wrap_i64 (by omega) (by omega)]; omega
    obtain ⟨⟨w1, w2⟩, ⟨w3, w4⟩⟩ := hwf l[i] (List.getElem_mem _)
    have hd : attrsOK (l.take i) (l.drop i) = (attrOK (l.take i) l[i] && attrsOK (l.take (i + 1)) (l.drop (i + 1))) := by
      rw [List.drop_eq_getElem_cons his, attrsOK, List.take_succ_eq_append_getElem his]
    rw [hd]
    obtain ⟨σ2, e2⟩ : ∃ x, x = (σ.new (.cells true 39 [.str [], .str []])).put σ.next (.cells true 39 [.str l[i].1, .str l[i].2]) := ⟨_, rfl⟩
    have hf2 : Fr σ σ2 := by rw [e2]; exact (Fr.new _ _).put (Nat.le_refl _) _
    have hn2 : σ.next < σ2.next := by rw [e2]; exact Nat.lt_succ_self _
    have hg2 : σ2.get σ.next = some (.cells true 39 [.str l[i].1, .str l[i].2]) := by rw [e2, St.get_put_same]
    have hN := named_ok false l[i].1 σ2 w1 w2
    rw [Ew_loop] at hr
    cases hn : namedS l[i].1 with
    | false =>
      rw [hn] at hN
      simp only [L43_1, sC, reduceIte, Nat.reduceEqDiff, stepOp, undefA, opMov, opPick, opArith, arith, opNot, sO, Nat.reduceAdd, opAlloc, allOne, sM, h5, h6, h7, hlt, g1, g2.ld, ← e2, hg2, opCall, argsOf, hN] at hr
      exact ⟨_, _, hf2, .inr ⟨by simp [attrOK, hn], hr.symm, by simp only [V_U, Nat.reduceEqDiff, reduceIte]⟩⟩
    | true =>
      rw [hn] at hN
      obtain ⟨σ3, hf3, hW⟩ := well_ok l[i].2 σ2 w3 w4
      cases hwl : wellS l[i].2 with
      | false =>
        rw [hwl] at hW
        simp only [L43_1, sC, reduceIte, Nat.reduceEqDiff, stepOp, undefA, opMov, opPick, opArith, arith, opNot, sO, Nat.reduceAdd, opAlloc, allOne, sM, h5, h6, h7, hlt, g1, g2.ld, ← e2, hg2, opCall, argsOf, hN, hW] at hr
        exact ⟨_, _, hf2.trans hf3, .inr ⟨by simp [attrOK, hn, hwl], hr.symm, by simp only [V_U, Nat.reduceEqDiff, reduceIte]⟩⟩
      | true =>
        rw [hwl] at hW
        have hv3 : AttrsI σ3 v l := hv.fr (hf2.trans hf3)
        obtain ⟨v', s1, s2⟩ := SlI.take hv3 (k := i) (by omega) (by omega)
        rw [take_flatMap (f := attrCells) (s := 2) (fun _ => rfl)] at s2
        have hv' : AttrsI σ3 v' (l.take i) := by
          unfold AttrsI
          rw [List.length_take, Nat.min_eq_left (by omega)]
          exact s2
        obtain ⟨σ4, hf4, hC⟩ := contF_ok hv' (by rw [List.length_take]; omega) (by rw [hf3.get _ hn2]; exact hg2) (Nat.lt_of_lt_of_le hn2 hf3.next)
        have hf : Fr σ σ4 := (hf2.trans hf3).trans hf4
        cases hh : hasN l[i].1 (l.take i) with
        | true =>
          rw [hh] at hC
          simp only [L43_1, sC, reduceIte, Nat.reduceEqDiff, stepOp, undefA, opMov, opPick, opArith, arith, opNot, sO, reduceCtorEq, Nat.reduceAdd, opAlloc, allOne, sM, h0, h5, h6, h7, hlt, g1, g2.ld, ← e2, hg2, opCall, argsOf, hN, hW, opSlSl_s, Option.map_none, Option.map_some, s1, opMkFunc, hC] at hr
          exact ⟨_, _, hf, .inr ⟨by simp [attrOK, hn, hwl, hh], hr.symm, by simp only [V_U, Nat.reduceEqDiff, reduceIte]⟩⟩
        | false =>
          rw [hh] at hC
          simp only [L43_1, sC, reduceIte, Nat.reduceEqDiff, stepOp, undefA, opMov, opPick, opArith, arith, opNot, sO, reduceCtorEq, Nat.reduceAdd, opAlloc, allOne, sM, h0, h5, h6, h7, hlt, g1, g2.ld, ← e2, hg2, opCall, argsOf, hN, hW, opSlSl_s, Option.map_none, Option.map_some, s1, opMkFunc, hC, hw] at hr
          obtain ⟨e, σ5, hf5, h⟩ := attrs_loop v l hb hwf m (i + 1) _ σ4 r hr (by omega) (hv.fr hf) (by simp only [V_U, Nat.reduceEqDiff, reduceIte, h0]) (by simp only [V_U, Nat.reduceEqDiff, reduceIte, h5]) (by simp only [V_U, Nat.reduceEqDiff, reduceIte, h6]) (by simp only [V_U, Nat.reduceEqDiff, reduceIte])
          refine ⟨e, σ5, hf.trans hf5, ?_⟩
          simpa [attrOK, hn, hwl, hh] using h

theorem attrs_ok (v : AVal) (l : List AttrD) (σ : St) (hb : l.length < 9223372036854775808) (hwf : ∀ a ∈ l, SWF a.1 ∧ SWF a.2) (hv : AttrsI σ v l) :
    ∃ σ', Fr σ σ' ∧ Cw TS false 43 [v] σ = some (.bool (attrsS l), σ') := by
  have hl := SlI.len hv
  rw [Cw_of fn43 false _ σ rfl]
  simp only [c43, sC, reduceIte, Nat.reduceEqDiff, stepOp, opMov, opArith, arith, sO, reduceCtorEq, sF, Nat.reduceAdd, hl]
  generalize hr : Ew TS false (.loop L43_1) _ σ = r
  obtain ⟨e, σ', hf, ⟨h1, rfl, h3⟩ | ⟨h1, rfl, h3⟩⟩ := attrs_loop v l hb hwf l.length 0 _ σ r hr (by omega) hv (by simp only [V_U, Nat.reduceEqDiff, reduceIte]) (by simp only [V_U, Nat.reduceEqDiff, reduceIte]) (by simp only [V_U, Nat.reduceEqDiff, reduceIte]) (by simp only [V_U, Nat.reduceEqDiff, reduceIte]; rfl)
  · refine ⟨σ', hf, ?_⟩
    have h1 : attrsOK [] l = true := by simpa using h1
    by_cases h16 : (l.length : Int) ≤ 16
    · have : attrsS l = true := by simp [attrsS, h1]; omega
      simp only [sC, reduceIte, Nat.reduceEqDiff, sO, sF, h3, hl, h16, this]
    · have : attrsS l = false := by simp [attrsS, h1]; omega
      simp only [sC, reduceIte, Nat.reduceEqDiff, sO, sF, h3, hl, h16, this]
  · refine ⟨σ', hf, ?_⟩
    have h1 : attrsOK [] l = false := by simpa using h1
    have : attrsS l = false := by simp [attrsS, h1]
    simp only [sF, h3, this]
end Go.Ab.Dirs
end
