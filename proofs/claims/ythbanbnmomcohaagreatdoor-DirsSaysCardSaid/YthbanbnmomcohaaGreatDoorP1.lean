/- dirs: words in small letters, kinds. -/
import Derived.Test.YthbanbnmomcohaaGreatDoorY
import Derived.Test.YthbanbnmomcohaaGreatDoorA8
set_option maxRecDepth 10000
noncomputable section
namespace Go.Ab.Dirs
open Go Go.Ab

/-- A letter made small. -/
def low (c : Nat) : Nat := if 65 ≤ c ∧ c ≤ 90 then c + 32 else c

theorem same_loop (q : Bool) (s w : List Nat) (hs : ∀ c ∈ s, c < 256) (hl : s.length = w.length) (hb : s.length < 9223372036854775808) : ∀ (m : Nat) (i : Nat) (env : Env) (σ : St) (r : Option (Out × Env × St)), Ew TS q (.loop L45_1) env σ = r → i + m = s.length →
    V env 0 = .str s → V env 1 = .str w → V env 13 = .int .i64 s.length → V env 14 = .int .i64 i →
    ∃ e, (((s.drop i).map low = w.drop i ∧ r = some (.exit 0, e, σ)) ∨
      (¬ (s.drop i).map low = w.drop i ∧ r = some (.ret, e, σ) ∧ V e 4 = .bool false))
  | 0, i, env, σ, r, hr, hi, h0, h1, h13, h14 => by
    have hlt : ¬ ((i : Int) < (s.length : Int)) := by omega
    rw [Ew_loop] at hr
    simp only [L45_1, sC, reduceIte, stepOp, opArith, arith, sO, h13, h14, hlt] at hr
    refine ⟨_, .inl ⟨?_, hr.symm⟩⟩
    rw [List.drop_eq_nil_of_le (by omega), List.drop_eq_nil_of_le (by omega)]; rfl
  | m + 1, i, env, σ, r, hr, hi, h0, h1, h13, h14 => by
    have hlt : ((i : Int) < (s.length : Int)) := by omega
    have his : i < s.length := by omega
    have hiw : i < w.length := by omega
    have hc := dropX_get his
    have hd := dropX_get hiw
    have hw : wrapI .i64 ((i : Int) + 1) = ((i + 1 : Nat) : Int) := by rw [wrap_i64 (by omega) (by omega)]; omega
    have hc256 := hs s[i] (List.getElem_mem _)
    have key : (s.drop i).map low = w.drop i ↔ low s[i] = w[i] ∧ (s.drop (i + 1)).map low = w.drop (i + 1) := by
      rw [List.drop_eq_getElem_cons his, List.drop_eq_getElem_cons hiw, List.map_cons, List.cons.injEq]
    rw [key]
    rw [Ew_loop] at hr
    have hlo : (65 ≤ s[i] ∧ s[i] ≤ 90 ∧ low s[i] = s[i] + 32) ∨ (¬ (65 ≤ s[i] ∧ s[i] ≤ 90) ∧ low s[i] = s[i]) := by
      unfold low; split
      · left; omega
      · right; omega
    rcases hlo with ⟨ha, hz, hl2⟩ | ⟨hn, hl2⟩
    · have ha' : (65 : Int) ≤ (s[i] : Int) := by omega
      have hz' : (s[i] : Int) ≤ 90 := by omega
      have hw2 : wrapI .u8 ((s[i] : Int) + 32) = ((s[i] + 32 : Nat) : Int) := by rw [wrap_u8 (by omega) (by omega)]; omega
      by_cases he : ¬ (((s[i] + 32 : Nat) : Int) = (w[i] : Int))
      · simp only [L45_1, sC, reduceIte, Nat.reduceEqDiff, stepOp, opMov, opPick, opArith, arith, sO, reduceCtorEq, opIxStr, h0, h1, h13, h14, hlt, hc, hd, ha', hz', hw2, he] at hr
        refine ⟨_, .inr ⟨?_, hr.symm, by simp only [V_U, Nat.reduceEqDiff, reduceIte]⟩⟩
        rw [hl2]; omega
      · have he := Classical.not_not.1 he
        have hE := eq_true he
        simp only [L45_1, sC, reduceIte, Nat.reduceEqDiff, stepOp, opMov, opPick, opArith, arith, sO, reduceCtorEq, opIxStr, h0, h1, h13, h14, hlt, hc, hd, ha', hz', hw2, hE, hw] at hr
        have hq : low s[i] = w[i] := by rw [hl2]; omega
        simp only [hq, true_and]
        exact same_loop q s w hs hl hb m (i + 1) _ σ r hr (by omega) (by simp only [V_U, Nat.reduceEqDiff, reduceIte, h0]) (by simp only [V_U, Nat.reduceEqDiff, reduceIte, h1]) (by simp only [V_U, Nat.reduceEqDiff, reduceIte, h13]) (by simp only [V_U, Nat.reduceEqDiff, reduceIte])
    · have hk : (¬ (65 : Int) ≤ (s[i] : Int)) ∨ ((65 : Int) ≤ (s[i] : Int) ∧ ¬ (s[i] : Int) ≤ 90) := by omega
      by_cases he : ¬ ((s[i] : Int) = (w[i] : Int))
      · rcases hk with ha' | ⟨ha', hz'⟩
        · simp only [L45_1, sC, reduceIte, Nat.reduceEqDiff, stepOp, undefA, opMov, opPick, opArith, arith, sO, reduceCtorEq, opIxStr, h0, h1, h13, h14, hlt, hc, hd, ha', he] at hr
          refine ⟨_, .inr ⟨?_, hr.symm, by simp only [V_U, Nat.reduceEqDiff, reduceIte]⟩⟩
          rw [hl2]; omega
        · simp only [L45_1, sC, reduceIte, Nat.reduceEqDiff, stepOp, opMov, opPick, opArith, arith, sO, reduceCtorEq, opIxStr, h0, h1, h13, h14, hlt, hc, hd, ha', hz', he] at hr
          refine ⟨_, .inr ⟨?_, hr.symm, by simp only [V_U, Nat.reduceEqDiff, reduceIte]⟩⟩
          rw [hl2]; omega
      · have he := Classical.not_not.1 he
        have hE := eq_true he
        have hq : low s[i] = w[i] := by rw [hl2]; omega
        rcases hk with ha' | ⟨ha', hz'⟩
        · simp only [L45_1, sC, reduceIte, Nat.reduceEqDiff, stepOp, undefA, opMov, opPick, opArith, arith, sO, reduceCtorEq, opIxStr, h0, h1, h13, h14, hlt, hc, hd, ha', hE, hw] at hr
          simp only [hq, true_and]
          exact same_loop q s w hs hl hb m (i + 1) _ σ r hr (by omega) (by simp only [V_U, Nat.reduceEqDiff, reduceIte, h0]) (by simp only [V_U, Nat.reduceEqDiff, reduceIte, h1]) (by simp only [V_U, Nat.reduceEqDiff, reduceIte, h13]) (by simp only [V_U, Nat.reduceEqDiff, reduceIte])
        · simp only [L45_1, sC, reduceIte, Nat.reduceEqDiff, stepOp, opMov, opPick, opArith, arith, sO, reduceCtorEq, opIxStr, h0, h1, h13, h14, hlt, hc, hd, ha', hz', hE, hw] at hr
          simp only [hq, true_and]
          exact same_loop q s w hs hl hb m (i + 1) _ σ r hr (by omega) (by simp only [V_U, Nat.reduceEqDiff, reduceIte, h0]) (by simp only [V_U, Nat.reduceEqDiff, reduceIte, h1]) (by simp only [V_U, Nat.reduceEqDiff, reduceIte, h13]) (by simp only [V_U, Nat.reduceEqDiff, reduceIte])

theorem same_ok (q : Bool) (s w : List Nat) (σ : St) (hs : ∀ c ∈ s, c < 256) (hb : s.length < 9223372036854775808) :
    Cw TS q 45 [.str s, .str w] σ = some (.bool (decide (s.map low = w)), σ) := by
  rw [Cw_of fn45 q _ σ rfl]
  by_cases hl : s.length = w.length
  · have hne := eq_true (show ((s.length : Int) = (w.length : Int)) by simp [hl])
    simp only [c45, sC, reduceIte, Nat.reduceEqDiff, stepOp, opMov, opArith, arith, sO, reduceCtorEq, sF, Nat.reduceAdd, hne]
    generalize hr : Ew TS q (.loop L45_1) _ σ = r
    obtain ⟨e, ⟨h1, rfl⟩ | ⟨h1, rfl, h3⟩⟩ := same_loop q s w hs hl hb s.length 0 _ σ r hr (by omega) (by simp only [V_U, Nat.reduceEqDiff, reduceIte]) (by simp only [V_U, Nat.reduceEqDiff, reduceIte]) (by simp only [V_U, Nat.reduceEqDiff, reduceIte]) (by simp only [V_U, Nat.reduceEqDiff, reduceIte]; rfl)
    · simp only [sC, reduceIte, sF]
      have : s.map low = w := by simpa using h1
      simp [this]
    · simp only [sF, h3]
      have : ¬ s.map low = w := by simpa using h1
      simp [this]
  · have hne : ¬ ((s.length : Int) = (w.length : Int)) := by omega
    simp only [c45, sC, reduceIte, Nat.reduceEqDiff, stepOp, opMov, opArith, arith, sO, reduceCtorEq, sF, Nat.reduceAdd, hne]
    have : ¬ s.map low = w := fun h => hl (by rw [← h]; simp)
    simp [this]
end Go.Ab.Dirs
end
