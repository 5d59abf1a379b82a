/- selvedgekit.Size. -/
import Derived.Test.YthbanbnmomcohaaGreatDoorP2
import Derived.Test.YthbanbnmomcohaaGreatDoorA8
set_option maxRecDepth 10000
noncomputable section
namespace Go.Ab.Dirs
open Go Go.Ab

section
variable {t : List ND} {tv : AVal} {σ : St}

theorem size_in (ht : TreeI σ tv t) {i : Nat} (hi : i < t.length) (hal : t[i].attrs.length < 9223372036854775808) (top : Int) : ∀ (m k : Nat) (n : Int) (e : Env) (r : Option (Out × Env × St)), k + m = t[i].attrs.length → Ew TS false (.loop L9_1) e σ = r →
    V e 0 = tv → V e 1 = .int .i64 top → V e 5 = .int .i64 n → V e 6 = .int .i64 (i : Int) → V e 7 = .int .i64 (k : Int) →
    ∃ e' n', r = some (.exit 2, e', σ) ∧ V e' 0 = tv ∧ V e' 1 = .int .i64 top ∧ V e' 5 = .int .i64 n' ∧ V e' 6 = .int .i64 (i : Int)
  | 0, k, n, e, r, hk, hr, h0, h1, h5, h6, h7 => by
    obtain ⟨av, kv, x1, x2⟩ := ht.get hi
    have x1 := x1 .i64
    have hl := SlI.len x2.attrs
    have hlt : ¬ ((k : Int) < (t[i].attrs.length : Int)) := by omega
    rw [Ew_loop] at hr
    simp only [L9_1, sC, reduceIte, Nat.reduceEqDiff, stepOp, undefA, opMov, opPick, opArith, arith, sO, reduceCtorEq, opIaSl_s, opFieldAddr_s, opLoad_s, h0, h6, h7, x1, x2.f2, x2.l2, hl, hlt] at hr
    exact ⟨_, n, hr.symm, by simp only [V_U, Nat.reduceEqDiff, reduceIte, h0], by simp only [V_U, Nat.reduceEqDiff, reduceIte, h1], by simp only [V_U, Nat.reduceEqDiff, reduceIte, h5], by simp only [V_U, Nat.reduceEqDiff, reduceIte, h6]⟩
  | m + 1, k, n, e, r, hk, hr, h0, h1, h5, h6, h7 => by
    obtain ⟨av, kv, x1, x2⟩ := ht.get hi
    have x1 := x1 .i64
    have hl := SlI.len x2.attrs
    have hlt : ((k : Int) < (t[i].attrs.length : Int)) := by omega
    have hw : wrapI .i64 ((k : Int) + 1) = ((k + 1 : Nat) : Int) := by rw [wrap_i64 (by omega) (by omega)]; omega
    obtain ⟨g1, g2⟩ := x2.attrs.get (i := k) (by omega) (k := .i64)
    rw [Ew_loop] at hr
    by_cases hn : n ≤ top
    · simp only [L9_1, sC, reduceIte, Nat.reduceEqDiff, stepOp, opMov, opPick, opArith, arith, sO, reduceCtorEq, sD, opIaSl_s, opFieldAddr_s, opLoad_s, h0, h1, h5, h6, h7, x1, x2.f2, x2.l2, hl, hlt, hn, g1, g2.f0, g2.l0, g2.f1, g2.l1, hw] at hr
      exact size_in ht hi hal top m (k + 1) _ _ r (by omega) hr (by simp only [V_U, Nat.reduceEqDiff, reduceIte, h0]) (by simp only [V_U, Nat.reduceEqDiff, reduceIte, h1]) (by simp only [V_U, Nat.reduceEqDiff, reduceIte]; rfl) (by simp only [V_U, Nat.reduceEqDiff, reduceIte, h6]) (by simp only [V_U, Nat.reduceEqDiff, reduceIte])
    · simp only [L9_1, sC, reduceIte, Nat.reduceEqDiff, stepOp, opMov, opPick, opArith, arith, sO, reduceCtorEq, opIaSl_s, opFieldAddr_s, opLoad_s, h0, h1, h5, h6, h7, x1, x2.f2, x2.l2, hl, hlt, hn] at hr
      exact ⟨_, n, hr.symm, by simp only [V_U, Nat.reduceEqDiff, reduceIte, h0], by simp only [V_U, Nat.reduceEqDiff, reduceIte, h1], by simp only [V_U, Nat.reduceEqDiff, reduceIte, h5], by simp only [V_U, Nat.reduceEqDiff, reduceIte, h6]⟩

theorem size_out (ht : TreeI σ tv t) (hal : ∀ n ∈ t, n.attrs.length < 9223372036854775808) (hb : t.length < 9223372036854775808) (top : Int) : ∀ (m i : Nat) (n : Int) (e : Env) (r : Option (Out × Env × St)), i + m = t.length → Ew TS false (.loop L9_2) e σ = r →
    V e 0 = tv → V e 1 = .int .i64 top → V e 5 = .int .i64 n → V e 6 = .int .i64 (i : Int) →
    ∃ e' n', r = some (.exit 0, e', σ) ∧ V e' 1 = .int .i64 top ∧ V e' 5 = .int .i64 n'
  | 0, i, n, e, r, hk, hr, h0, h1, h5, h6 => by
    have hl := ht.len
    have hlt : ¬ ((i : Int) < (t.length : Int)) := by omega
    rw [Ew_loop] at hr
    simp only [L9_2, sC, reduceIte, Nat.reduceEqDiff, stepOp, undefA, opMov, opPick, opArith, arith, sO, reduceCtorEq, h0, h6, hl, hlt] at hr
    exact ⟨_, n, hr.symm, by simp only [V_U, Nat.reduceEqDiff, reduceIte, h1], by simp only [V_U, Nat.reduceEqDiff, reduceIte, h5]⟩
  | m + 1, i, n, e, r, hk, hr, h0, h1, h5, h6 => by
    have hl := ht.len
    have hi : i < t.length := by omega
    have hlt : ((i : Int) < (t.length : Int)) := by omega
    have hw : wrapI .i64 ((i : Int) + 1) = ((i + 1 : Nat) : Int) := by rw [wrap_i64 (by omega) (by omega)]; omega
    obtain ⟨av, kv, x1, x2⟩ := ht.get hi
    have x1 := x1 .i64
    have hla := SlI.len x2.attrs
    have hlk := SlI.len x2.kids
    rw [Ew_loop] at hr
    by_cases hn : n ≤ top
    · simp only [L9_2, sC, reduceIte, Nat.reduceEqDiff, stepOp, opMov, opPick, opArith, arith, sO, reduceCtorEq, sD, opIaSl_s, opFieldAddr_s, opLoad_s, h0, h1, h5, h6, x1, x2.f1, x2.l1, x2.f2, x2.l2, x2.f3, x2.l3, x2.f5, x2.l5, hl, hla, hlk, hlt, hn] at hr
      generalize hr2 : Ew TS false (.loop L9_1) _ _ = r2 at hr
      obtain ⟨e2, n2, rfl, b0, b1, b5, b6⟩ := size_in ht hi (hal _ (List.getElem_mem _)) top t[i].attrs.length 0 _ _ r2 (by omega) hr2 (by simp only [V_U, Nat.reduceEqDiff, reduceIte, h0]) (by simp only [V_U, Nat.reduceEqDiff, reduceIte, h1]) (by simp only [V_U, Nat.reduceEqDiff, reduceIte]; rfl) (by simp only [V_U, Nat.reduceEqDiff, reduceIte, h6]) (by simp only [V_U, Nat.reduceEqDiff, reduceIte]; rfl)
      simp only [reduceIte, b6, hw] at hr
      exact size_out ht hal hb top m (i + 1) n2 _ r (by omega) hr (by simp only [V_U, Nat.reduceEqDiff, reduceIte, b0]) (by simp only [V_U, Nat.reduceEqDiff, reduceIte, b1]) (by simp only [V_U, Nat.reduceEqDiff, reduceIte, b5]) (by simp only [V_U, Nat.reduceEqDiff, reduceIte])
    · simp only [L9_2, sC, reduceIte, Nat.reduceEqDiff, stepOp, opMov, opPick, opArith, arith, sO, reduceCtorEq, h0, h1, h5, h6, hl, hlt, hn] at hr
      exact ⟨_, n, hr.symm, by simp only [V_U, Nat.reduceEqDiff, reduceIte, h1], by simp only [V_U, Nat.reduceEqDiff, reduceIte, h5]⟩

theorem Size_ok (ht : TreeI σ tv t) (hal : ∀ n ∈ t, n.attrs.length < 9223372036854775808) (hb : t.length < 9223372036854775808) (top : Int) : ∃ n : Int, Cw TS false 9 [tv, .int .i64 top] σ = some (.int .i64 n, σ) := by
  have hl := ht.len
  rw [Cw_of fn9 false _ σ rfl]
  simp only [c9, sC, reduceIte, Nat.reduceEqDiff, stepOp, opMov, opArith, arith, sO, reduceCtorEq, sF, Nat.reduceAdd, hl]
  generalize hr : Ew TS false (.loop L9_2) _ _ = r
  obtain ⟨e, n, rfl, h1, h5⟩ := size_out ht hal hb top t.length 0 _ _ r (by omega) hr (by simp only [V_U, Nat.reduceEqDiff, reduceIte]) (by simp only [V_U, Nat.reduceEqDiff, reduceIte]) (by simp only [V_U, Nat.reduceEqDiff, reduceIte]; rfl) (by simp only [V_U, Nat.reduceEqDiff, reduceIte]; rfl)
  simp only [sC, reduceIte, Nat.reduceEqDiff, sF, opMn, h1, h5]
  exact ⟨_, rfl⟩
end
end Go.Ab.Dirs
end
