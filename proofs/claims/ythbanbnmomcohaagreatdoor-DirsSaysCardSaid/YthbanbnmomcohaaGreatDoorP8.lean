/- dirs: an element's state. -/
import Derived.Test.YthbanbnmomcohaaGreatDoorP7
set_option maxRecDepth 10000
noncomputable section
namespace Go.Ab.Dirs
open Go Go.Ab

/-- The state of an element with such attributes. -/
def stateS : List AttrD → Nat
  | [] => 0
  | a :: l => if a.1 = [100, 105, 114] then
      if a.2.map low = [108, 116, 114] then 1 else if a.2.map low = [114, 116, 108] then 2 else if a.2.map low = [97, 117, 116, 111] then 3 else stateS l
    else stateS l
theorem stateS_le : ∀ l, stateS l ≤ 3
  | [] => Nat.zero_le _
  | a :: l => by
    unfold stateS
    have := stateS_le l
    repeat' split
    all_goals omega

theorem state_loop (v : AVal) (l : List AttrD) (hb : l.length < 9223372036854775808) (hwf : ∀ a ∈ l, SWF a.1 ∧ SWF a.2) : ∀ (m i : Nat) (env : Env) (σ : St) (r : Option (Out × Env × St)), Ew TS false (.loop L28_1) env σ = r → i + m = l.length → AttrsI σ v l →
    V env 6 = v → V env 7 = .int .i64 l.length → V env 8 = .int .i64 i →
    ∃ e σ', Fr σ σ' ∧ ((stateS (l.drop i) = 0 ∧ r = some (.exit 0, e, σ')) ∨ (r = some (.ret, e, σ') ∧ V e 2 = .int .u8 (stateS (l.drop i) : Int)))
  | 0, i, env, σ, r, hr, hi, hv, h6, h7, h8 => by
    have hlt : ¬ ((i : Int) < (l.length : Int)) := by omega
    rw [Ew_loop] at hr
    simp only [L28_1, sC, reduceIte, stepOp, opArith, arith, sO, h7, h8, hlt] at hr
    refine ⟨_, _, Fr.refl _, .inl ⟨?_, hr.symm⟩⟩
    rw [List.drop_eq_nil_of_le (by omega)]; rfl
  | m + 1, i, env, σ, r, hr, hi, hv, h6, h7, h8 => by
    have hlt : ((i : Int) < (l.length : Int)) := by omega
    have his : i < l.length := by omega
    obtain ⟨g1, g2⟩ := hv.get his (k := .i64)
    have hw : wrapI .i64 ((i : Int) + 1) = ((i + 1 : Nat) : Int) := by rw [wrap_i64 (by omega) (by omega)]; omega
    obtain ⟨⟨w1, w2⟩, ⟨w3, w4⟩⟩ := hwf l[i] (List.getElem_mem _)
    rw [List.drop_eq_getElem_cons his, stateS]
    obtain ⟨σ2, e2⟩ : ∃ x, x = (σ.new (.cells true 39 [.str [], .str []])).put σ.next (.cells true 39 [.str l[i].1, .str l[i].2]) := ⟨_, rfl⟩
    have hf2 : Fr σ σ2 := by rw [e2]; exact (Fr.new _ _).put (Nat.le_refl _) _
    have hg2 : σ2.get σ.next = some (.cells true 39 [.str l[i].1, .str l[i].2]) := by rw [e2, St.get_put_same]
    have s1 := same_ok false l[i].2 [108, 116, 114] σ2 w3 w4
    have s2 := same_ok false l[i].2 [114, 116, 108] σ2 w3 w4
    have s3 := same_ok false l[i].2 [97, 117, 116, 111] σ2 w3 w4
    have hv2 := hv.fr hf2
    rw [Ew_loop] at hr
    by_cases hn : l[i].1 = [100, 105, 114]
    · rw [if_pos hn]
      have hn := eq_true hn
      by_cases c1 : l[i].2.map low = [108, 116, 114]
      · rw [if_pos c1]
        have c1 := eq_true c1
        simp only [L28_1, sC, reduceIte, Nat.reduceEqDiff, stepOp, undefA, opMov, opArith, arith, opStrop, strop, sO, Nat.reduceAdd, opAlloc, allOne, sM, h6, h7, h8, hlt, g1, g2.ld, ← e2, hg2, opCall, argsOf, hn, s1, c1] at hr
        exact ⟨_, _, hf2, .inr ⟨hr.symm, by simp only [V_U, Nat.reduceEqDiff, reduceIte]; rfl⟩⟩
      · rw [if_neg c1]
        by_cases c2 : l[i].2.map low = [114, 116, 108]
        · rw [if_pos c2]
          have c2 := eq_true c2
          simp only [L28_1, sC, reduceIte, Nat.reduceEqDiff, stepOp, undefA, opMov, opArith, arith, opStrop, strop, sO, Nat.reduceAdd, opAlloc, allOne, sM, h6, h7, h8, hlt, g1, g2.ld, ← e2, hg2, opCall, argsOf, hn, s1, c1, s2, c2] at hr
          exact ⟨_, _, hf2, .inr ⟨hr.symm, by simp only [V_U, Nat.reduceEqDiff, reduceIte]; rfl⟩⟩
        · rw [if_neg c2]
          by_cases c3 : l[i].2.map low = [97, 117, 116, 111]
          · rw [if_pos c3]
            have c3 := eq_true c3
            simp only [L28_1, sC, reduceIte, Nat.reduceEqDiff, stepOp, undefA, opMov, opArith, arith, opStrop, strop, sO, Nat.reduceAdd, opAlloc, allOne, sM, h6, h7, h8, hlt, g1, g2.ld, ← e2, hg2, opCall, argsOf, hn, s1, c1, s2, c2, s3, c3] at hr
            exact ⟨_, _, hf2, .inr ⟨hr.symm, by simp only [V_U, Nat.reduceEqDiff, reduceIte]; rfl⟩⟩
          · rw [if_neg c3]
            simp only [L28_1, sC, reduceIte, Nat.reduceEqDiff, stepOp, undefA, opMov, opArith, arith, opStrop, strop, sO, Nat.reduceAdd, opAlloc, allOne, sM, h6, h7, h8, hlt, g1, g2.ld, ← e2, hg2, opCall, argsOf, hn, s1, c1, s2, c2, s3, c3, hw] at hr
            obtain ⟨e, σ5, hf5, h⟩ := state_loop v l hb hwf m (i + 1) _ σ2 r hr (by omega) hv2 (by simp only [V_U, Nat.reduceEqDiff, reduceIte, h6]) (by simp only [V_U, Nat.reduceEqDiff, reduceIte, h7]) (by simp only [V_U, Nat.reduceEqDiff, reduceIte])
            exact ⟨e, σ5, hf2.trans hf5, h⟩
    · rw [if_neg hn]
      simp only [L28_1, sC, reduceIte, Nat.reduceEqDiff, stepOp, undefA, opMov, opArith, arith, opStrop, strop, sO, Nat.reduceAdd, opAlloc, allOne, sM, h6, h7, h8, hlt, g1, g2.ld, ← e2, hg2, hn, hw] at hr
      obtain ⟨e, σ5, hf5, h⟩ := state_loop v l hb hwf m (i + 1) _ σ2 r hr (by omega) hv2 (by simp only [V_U, Nat.reduceEqDiff, reduceIte, h6]) (by simp only [V_U, Nat.reduceEqDiff, reduceIte, h7]) (by simp only [V_U, Nat.reduceEqDiff, reduceIte])
      exact ⟨e, σ5, hf2.trans hf5, h⟩

theorem state_ok {a b c d f v : AVal} (l : List AttrD) (σ : St) (hb : l.length < 9223372036854775808) (hwf : ∀ a ∈ l, SWF a.1 ∧ SWF a.2) (hv : AttrsI σ v l) :
    ∃ σ', Fr σ σ' ∧ Cw TS false 28 [.agg [a, b, v, c, d, f]] σ = some (.int .u8 (stateS l : Int), σ') := by
  have hv1 := hv.fr (Fr.new σ (.cells true 36 [a, b, v, c, d, f]))
  have hl := SlI.len hv1
  rw [Cw_of fn28 false _ σ rfl]
  simp only [c28, sC, reduceIte, Nat.reduceEqDiff, stepOp, opMov, sO, reduceCtorEq, sF, sM, opBox, hl]
  generalize hr : Ew TS false (.loop L28_1) _ _ = r
  obtain ⟨e, σ', hf, ⟨h1, rfl⟩ | ⟨rfl, h3⟩⟩ := state_loop v l hb hwf l.length 0 _ _ r hr (by omega) hv1 (by simp only [V_U, Nat.reduceEqDiff, reduceIte]) (by simp only [V_U, Nat.reduceEqDiff, reduceIte]) (by simp only [V_U, Nat.reduceEqDiff, reduceIte]; rfl)
  · refine ⟨σ', (Fr.new _ _).trans hf, ?_⟩
    rw [List.drop_zero] at h1
    simp only [sC, reduceIte, sF, h1]
    rfl
  · refine ⟨σ', (Fr.new _ _).trans hf, ?_⟩
    rw [List.drop_zero] at h3
    simp only [sF, h3]
end Go.Ab.Dirs
end
