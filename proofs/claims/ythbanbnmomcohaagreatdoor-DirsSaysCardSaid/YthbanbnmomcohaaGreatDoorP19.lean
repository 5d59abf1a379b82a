/- dirs.scan: whole. -/
import Derived.Test.YthbanbnmomcohaaGreatDoorP18
set_option maxRecDepth 10000
noncomputable section
namespace Go.Ab.Dirs
open Go Go.Ab

def half1 : ACode → ACode | .seq a _ => a | c => c
def half2 : ACode → ACode | .seq _ b => b | c => c
def inBlock : ACode → ACode | .block _ a => a | c => c
def body46 : ACode := inBlock (half1 (half2 (half2 L46_2)))
def q46 : ACode := half1 (half2 (half2 body46))
def rest46 : ACode := half2 (half2 (half2 body46))
theorem L46_2_eq : L46_2 = .seq (.region false [⟨(some (path 18)), .arith .lss (.t (path 17)) (.t (path 16)), none, .pure⟩]) (.seq (.cond (.t (path 18)) .skip (.exit 0)) (.seq (.block 1 (.seq (.region false [⟨(some (path 19)), .iaSl 1 (.t (path 15)) (.t (path 17)), none, .pure⟩, ⟨(some (path 20)), .load none (.t (path 19)), none, .pure⟩, ⟨(some (path 7)), .mov (.t (path 20)), none, .pure⟩]) (.seq (half1 (half2 body46)) (.seq q46 rest46)))) (half2 (half2 (half2 L46_2))))) := by kernel_rfl
theorem q46_eq : ∃ a, q46 = .seq a (.cond (.t (path 37)) (.region false [⟨(some (path 38)), .load none (.t (path 2)), none, .pure⟩, ⟨(some (path 39)), .mov (.t (path 7)), none, .pure⟩, ⟨(some (path 40)), .callV (.t (path 38)) [(.t (path 39))], none, .pure⟩]) .skip) := ⟨half1 q46, by kernel_rfl⟩

/-- What the children of a right tree's nodes are. -/
def KidsT (t : List ND) : Prop := ∀ i, i < t.length → ∀ z ∈ (t.getD i dN).kids, ∃ k : Nat, z = (k : Int) ∧ i < k ∧ k < t.length

section
variable {σe : St} {bt bl bf bw : Nat} {tv : AVal} {t : List ND}

/-- What a run of the closure leaves. -/
def Keep (σ σ' : St) (bf bw : Nat) : Prop := σ.next ≤ σ'.next ∧ ∀ b, b < σ.next → b ≠ bf → b ≠ bw → σ'.get b = σ.get b

/-- An element is scanned, if it is open. -/
theorem scan_q {f k : Nat} (hrec : ∀ σ, Sc σe σ bt bl bf bw tv none → ∃ σ', Sc σe σ' bt bl bf bw tv (scanF t f k) ∧ Keep σ σ' bf bw ∧ Cw TS false 46 [.int .i64 (k : Int), .ptr bt 0, .ptr bl 0, .ptr bf 0, .ptr bw 0] σ = some (.tuple [], σ'))
    {n : ND} {av kv : AVal} {b8 : Nat} {σ : St} {e : Env} {r : Option (Out × Env × St)} (hwf : NWF n) (hS : Sc σe σ bt bl bf bw tv none) (hc : Copy σ b8 n av kv) (hr : Ew TS false q46 e σ = r)
    (h2 : V e 2 = .ptr bl 0) (h7 : V e 7 = .int .i64 (k : Int)) (h8 : V e 8 = .ptr b8 0) :
    ∃ e' σ', Sc σe σ' bt bl bf bw tv (if openS n then scanF t f k else none) ∧ Keep σ σ' bf bw ∧ r = some (.normal, e', σ') ∧ V e' 0 = V e 0 ∧ V e' 1 = V e 1 ∧ V e' 2 = V e 2 ∧ V e' 3 = V e 3 ∧ V e' 4 = V e 4 ∧ V e' 8 = V e 8 ∧ V e' 15 = V e 15 ∧ V e' 16 = V e 16 ∧ V e' 17 = V e 17 := by
  obtain ⟨⟨f1, ty, hg⟩, hlt, ha, hk⟩ := hc
  have hq : q46 = half1 (half2 (half2 (inBlock (half1 (half2 (half2 L46_2)))))) := rfl
  have keep0 : Keep σ σ bf bw := ⟨Nat.le_refl _, fun _ _ _ _ => rfl⟩
  by_cases c1 : (n.kind : Int) = 1
  · have c1' := eq_true c1
    have d1 : decide (n.kind = 1) = true := by simp; omega
    by_cases c2 : n.name = [98, 100, 105]
    · have ho : openS n = false := by unfold openS; rw [d1]; simp [c2]
      have c2' := eq_true c2
      simp only [hq, half1, half2, inBlock, L46_2, sC, reduceIte, Nat.reduceEqDiff, stepOp, undefA, opMov, opPick, opArith, arith, opStrop, strop, sO, sM, h8, hg, c1', c2'] at hr
      rw [ho, if_neg (by decide)]
      exact ⟨_, _, hS, keep0, hr.symm, by simp only [V_U, Nat.reduceEqDiff, reduceIte], by simp only [V_U, Nat.reduceEqDiff, reduceIte], by simp only [V_U, Nat.reduceEqDiff, reduceIte, h2], by simp only [V_U, Nat.reduceEqDiff, reduceIte], by simp only [V_U, Nat.reduceEqDiff, reduceIte], by simp only [V_U, Nat.reduceEqDiff, reduceIte, h8], by simp only [V_U, Nat.reduceEqDiff, reduceIte], by simp only [V_U, Nat.reduceEqDiff, reduceIte], by simp only [V_U, Nat.reduceEqDiff, reduceIte]⟩
    · obtain ⟨σ1, hf1, hs⟩ := state_ok (a := .int .u8 (n.kind : Int)) (b := .str n.name) (c := .str n.data) (d := .int .i64 n.up) (f := kv) n.attrs σ hwf.alen hwf.attrs ha
      have hS1 := hS.next hf1
      have keep1 : Keep σ σ1 bf bw := ⟨hf1.next, fun b hb _ _ => hf1.get b hb⟩
      have d2 : decide (n.name ≠ [98, 100, 105]) = true := by simp [c2]
      by_cases c3 : (stateS n.attrs : Int) = 0
      · have c3' := eq_true c3
        have ho : openS n = true := by unfold openS; rw [d1, d2]; simp; omega
        obtain ⟨σ2, hS2, hk2, hC⟩ := hrec σ1 hS1
        obtain ⟨fl, el, gl⟩ := hS1.gl
        simp only [hq, half1, half2, inBlock, L46_2, sC, reduceIte, Nat.reduceEqDiff, stepOp, opMov, opPick, opArith, arith, opStrop, strop, sO, sM, h2, h7, h8, hg, c1', c2, opCall, opCallV, argsOf, hs, c3', gl, List.nil_append, List.cons_append, hC] at hr
        rw [ho, if_pos rfl]
        exact ⟨_, _, hS2, ⟨Nat.le_trans keep1.1 hk2.1, fun b hb x y => by rw [hk2.2 b (Nat.lt_of_lt_of_le hb keep1.1) x y, keep1.2 b hb x y]⟩, hr.symm, by simp only [V_U, Nat.reduceEqDiff, reduceIte], by simp only [V_U, Nat.reduceEqDiff, reduceIte], by simp only [V_U, Nat.reduceEqDiff, reduceIte, h2], by simp only [V_U, Nat.reduceEqDiff, reduceIte], by simp only [V_U, Nat.reduceEqDiff, reduceIte], by simp only [V_U, Nat.reduceEqDiff, reduceIte, h8], by simp only [V_U, Nat.reduceEqDiff, reduceIte], by simp only [V_U, Nat.reduceEqDiff, reduceIte], by simp only [V_U, Nat.reduceEqDiff, reduceIte]⟩
      · have ho : openS n = false := by unfold openS; rw [d1, d2]; simp; omega
        simp only [hq, half1, half2, inBlock, L46_2, sC, reduceIte, Nat.reduceEqDiff, stepOp, opMov, opPick, opArith, arith, opStrop, strop, sO, sM, h8, hg, c1', c2, opCall, argsOf, hs, c3] at hr
        rw [ho, if_neg (by decide)]
        exact ⟨_, _, hS1, keep1, hr.symm, by simp only [V_U, Nat.reduceEqDiff, reduceIte], by simp only [V_U, Nat.reduceEqDiff, reduceIte], by simp only [V_U, Nat.reduceEqDiff, reduceIte, h2], by simp only [V_U, Nat.reduceEqDiff, reduceIte], by simp only [V_U, Nat.reduceEqDiff, reduceIte], by simp only [V_U, Nat.reduceEqDiff, reduceIte, h8], by simp only [V_U, Nat.reduceEqDiff, reduceIte], by simp only [V_U, Nat.reduceEqDiff, reduceIte], by simp only [V_U, Nat.reduceEqDiff, reduceIte]⟩
  · have ho : openS n = false := by unfold openS; simp; intro h; omega
    simp only [hq, half1, half2, inBlock, L46_2, sC, reduceIte, Nat.reduceEqDiff, stepOp, undefA, opMov, opPick, opArith, arith, sO, sM, h8, hg, c1] at hr
    rw [ho, if_neg (by decide)]
    exact ⟨_, _, hS, keep0, hr.symm, by simp only [V_U, Nat.reduceEqDiff, reduceIte], by simp only [V_U, Nat.reduceEqDiff, reduceIte], by simp only [V_U, Nat.reduceEqDiff, reduceIte, h2], by simp only [V_U, Nat.reduceEqDiff, reduceIte], by simp only [V_U, Nat.reduceEqDiff, reduceIte], by simp only [V_U, Nat.reduceEqDiff, reduceIte, h8], by simp only [V_U, Nat.reduceEqDiff, reduceIte], by simp only [V_U, Nat.reduceEqDiff, reduceIte], by simp only [V_U, Nat.reduceEqDiff, reduceIte]⟩
end
end Go.Ab.Dirs
end
