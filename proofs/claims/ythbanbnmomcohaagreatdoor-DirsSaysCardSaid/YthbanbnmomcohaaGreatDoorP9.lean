/- props.Class. -/
import Derived.Test.YthbanbnmomcohaaGreatDoorP2
import Derived.Test.YthbanbnmomcohaaGreatDoorA8
set_option maxRecDepth 100000
noncomputable section
namespace Go.Ab.Dirs
open Go Go.Ab

theorem runOps_append {T : Tab} {cf : CF} {q : Bool} : ∀ (a b : List AOper) (env : Env) (σ : St), runOps T cf q (a ++ b) env σ = (match runOps T cf q a env σ with | some r => runOps T cf q b r.1 r.2 | none => none)
  | [], b, env, σ => rfl
  | o :: a, b, env, σ => by
    rw [List.cons_append, runOps_cons, runOps_cons]
    cases wantedA o env with
    | true =>
      simp only
      cases stepOp T cf q o.op env σ with
      | none => rfl
      | some r => exact runOps_append a b _ _
    | false => exact runOps_append a b _ _

theorem putX_full : ∀ (a b : List AVal), a.length = b.length → putX 0 a b = some b
  | [], [], _ => rfl
  | [], _ :: _, h => by simp at h
  | _ :: _, [], h => by simp at h
  | x :: a, y :: b, h => by
    have := putX_full a b (by simpa using h)
    unfold putX; rw [this]

def ops70 : List AOper := match af70.body with | .seq (.region _ a) (.seq (.region _ b) _) => a ++ b | _ => []
def mid70 : List AOper := (ops70.drop 1).take 147
def z70 : List AVal := match ops70 with | ⟨_, .alloc _ z, _, _⟩ :: _ => z | _ => []
theorem body70 : af70.body = .seq (.region false [⟨some (path 0), .alloc 104 z70, none, .pure⟩]) (.seq (.region false (mid70 ++ [⟨none, .store 438 (.t (path 0)) (.t (path 147)), none, .pure⟩])) .ret) := by kernel_rfl
theorem fn70 : TS.fn.get (path 70) = some ⟨0, [.cell (path 0) (some 438)], af70.body⟩ := by kernel_rfl
def env70 (b : Nat) : Env := match runOps TS (fun _ _ _ _ => none) false mid70 (U .emp 0 (.ptr b 0)) st0 with | some r => r.1 | none => .emp
theorem run70 (cf : CF) (b : Nat) (σ : St) : runOps TS cf false mid70 (U .emp 0 (.ptr b 0)) σ = some (env70 b, σ) := by kernel_rfl
def spansC : List AVal := match V (env70 0) 147 with | .agg l => l | _ => []
theorem env70_147 (b : Nat) : V (env70 b) 147 = .agg spansC := by kernel_rfl
theorem env70_0 (b : Nat) : V (env70 b) 0 = .ptr b 0 := by kernel_rfl
theorem spansC_len : spansC.length = 438 := by kernel_rfl
theorem z70_len : z70.length = 438 := by kernel_rfl
theorem spansC_one : allOne spansC = true := by kernel_rfl

theorem spans_ok (σ : St) : ∃ σ', Fr σ σ' ∧ Cw TS false 70 [] σ = some (.agg spansC, σ') := by
  have hg : (σ.new (.cells true 104 z70)).get σ.next = some (.cells true 104 z70) := St.get_new_same _ _
  have hst : stS (σ.new (.cells true 104 z70)) 438 (.ptr σ.next 0) (.agg spansC) = some ((σ.new (.cells true 104 z70)).put σ.next (.cells true 104 spansC)) := by
    rw [stS_ptr, hg]
    simp only [cells_agg, lenL_eq, spansC_len, spansC_one, and_self, if_true, putX_full z70 spansC (by rw [z70_len, spansC_len])]
  refine ⟨(σ.new (.cells true 104 z70)).put σ.next (.cells true 104 spansC), (Fr.new _ _).put (Nat.le_refl _) _, ?_⟩
  rw [Cw_of fn70 false _ σ rfl]
  simp only [body70, Ew_seq, Ew_region, Ew_ret]
  simp only [runOps_cons, runOps_nil, wanted_none, stepOp, opAlloc, Bool.false_eq_true, if_false, St.newK_eq, setDst_some, envOf_nil]
  rw [runOps_append, run70]
  simp only [runOps_cons, runOps_nil, wanted_none, stepOp, opStore_s, Bool.false_eq_true, if_false, ev_t, env70_0, env70_147, hst, setDst_none, fin_ret, resV, resAll, resOne, St.get_put_same, dropX_zero, loadL]
  rw [takeX_eq.2 ⟨by rw [spansC_len]; exact Nat.le_refl _, rfl⟩]
  rw [List.take_of_length_le (by rw [spansC_len]; exact Nat.le_refl _)]

/-- The spans. -/
def triples : List AVal → List (Int × Int × Int)
  | .int _ a :: .int _ b :: .int _ c :: l => (a, b, c) :: triples l
  | _ => []
def spanC (x : Int × Int × Int) : List AVal := [.int .i32 x.1, .int .i32 x.2.1, .int .u8 x.2.2]
def spansL : List (Int × Int × Int) := triples spansC
theorem spansC_eq : spansC = spansL.flatMap spanC := eqAs_eq _ _ (by decide +kernel)
theorem spansL_len : spansL.length = 146 := by kernel_rfl

def classG (r : Int) : List (Int × Int × Int) → Int
  | [] => 1
  | (a, b, c) :: l => if r < a then 1 else if r ≤ b then c else classG r l
/-- A character's class. -/
def classS (r : Int) : Int := classG r spansL

def ixArrS (len s : Nat) (agg : Bool) (v i : AVal) : Option AVal := match v, i with
  | .agg cs, .int _ i => if 0 ≤ i ∧ i < (len : Int) then (match dropX (i.toNat * s) cs with | some l => loadL (if agg then some s else none) l | none => none) else none
  | _, _ => none
theorem opIxArr_s {T : Tab} {len s : Nat} {agg : Bool} {x i : Opd} {env : Env} {σ : St} : opIxArr T len s agg x i env σ = (match ixArrS len s agg (x.ev T env) (i.ev T env) with | some v => some (v, σ) | none => none) := by
  unfold opIxArr ixArrS
  cases x.ev T env <;> try rfl
  rename_i cs
  cases i.ev T env <;> try rfl
  rename_i k n
  simp only
  split
  · cases dropX (n.toNat * s) cs with
    | none => rfl
    | some l => rfl
  · rfl

theorem span_at {i : Nat} (hi : i < 146) : ixArrS 146 3 true (.agg spansC) (.int .i64 (i : Int)) = some (.agg [.int .i32 (spansL[i]'(by rw [spansL_len]; exact hi)).1, .int .i32 (spansL[i]'(by rw [spansL_len]; exact hi)).2.1, .int .u8 (spansL[i]'(by rw [spansL_len]; exact hi)).2.2]) := by
  have h := spansL_len
  simp only [ixArrS, Int.toNat_natCast]
  rw [if_pos ⟨by omega, by omega⟩, dropX_eq.2 ⟨by rw [spansC_len]; omega, rfl⟩, spansC_eq, drop_flatMap (f := spanC) (s := 3) (fun _ => rfl), List.drop_eq_getElem_cons (by omega), List.flatMap_cons]
  rfl

theorem class_loop (c : Int) : ∀ (m i : Nat) (env : Env) (σ : St) (r : Option (Out × Env × St)), Ew TS false (.loop L47_1) env σ = r → i + m = 146 →
    V env 0 = .int .i32 c → V env 5 = .agg spansC → V env 6 = .int .i64 i →
    ∃ e σ', Fr σ σ' ∧ ((classG c (spansL.drop i) = 1 ∧ r = some (.exit 0, e, σ')) ∨ (r = some (.ret, e, σ') ∧ V e 2 = .int .u8 (classG c (spansL.drop i))))
  | 0, i, env, σ, r, hr, hi, h0, h5, h6 => by
    have hlt : ¬ ((i : Int) < 146) := by omega
    rw [Ew_loop] at hr
    simp only [L47_1, sC, reduceIte, stepOp, opArith, arith, sO, h6, hlt] at hr
    refine ⟨_, _, Fr.refl _, .inl ⟨?_, hr.symm⟩⟩
    rw [List.drop_eq_nil_of_le (by rw [spansL_len]; omega)]; rfl
  | m + 1, i, env, σ, r, hr, hi, h0, h5, h6 => by
    have hl := spansL_len
    have hlt : ((i : Int) < 146) := by omega
    have hw : wrapI .i64 ((i : Int) + 1) = ((i + 1 : Nat) : Int) := by rw [wrap_i64 (by omega) (by omega)]; omega
    have ha := span_at (i := i) (by omega)
    rw [List.drop_eq_getElem_cons (by omega)]
    obtain ⟨⟨a, b, k⟩, hx⟩ : ∃ x, spansL[i]'(by omega) = x := ⟨_, rfl⟩
    rw [hx] at ha ⊢
    simp only [classG]
    simp only at ha
    have hf : ∀ z o, Fr σ ((σ.new z).put σ.next o) := fun z o => (Fr.new _ _).put (Nat.le_refl _) _
    rw [Ew_loop] at hr
    by_cases c1 : c < a
    · rw [if_pos c1]
      simp only [L47_1, sC, reduceIte, Nat.reduceEqDiff, stepOp, undefA, opMov, opArith, arith, sO, reduceCtorEq, Nat.reduceAdd, opAlloc, allOne, sM, h0, h5, h6, hlt, opIxArr_s, ha, c1] at hr
      exact ⟨_, _, hf _ _, .inl ⟨rfl, hr.symm⟩⟩
    · rw [if_neg c1]
      by_cases c2 : c ≤ b
      · rw [if_pos c2]
        simp only [L47_1, sC, reduceIte, Nat.reduceEqDiff, stepOp, undefA, opMov, opArith, arith, sO, reduceCtorEq, Nat.reduceAdd, opAlloc, allOne, sM, h0, h5, h6, hlt, opIxArr_s, ha, c1, c2] at hr
        exact ⟨_, _, hf _ _, .inr ⟨hr.symm, by simp only [V_U, Nat.reduceEqDiff, reduceIte]⟩⟩
      · rw [if_neg c2]
        simp only [L47_1, sC, reduceIte, Nat.reduceEqDiff, stepOp, undefA, opMov, opArith, arith, sO, reduceCtorEq, Nat.reduceAdd, opAlloc, allOne, sM, h0, h5, h6, hlt, opIxArr_s, ha, c1, c2, hw] at hr
        obtain ⟨e, σ5, hf5, h⟩ := class_loop c m (i + 1) _ _ r hr (by omega) (by simp only [V_U, Nat.reduceEqDiff, reduceIte, h0]) (by simp only [V_U, Nat.reduceEqDiff, reduceIte, h5]) (by simp only [V_U, Nat.reduceEqDiff, reduceIte])
        exact ⟨e, σ5, (hf _ _).trans hf5, h⟩

theorem Class_ok (c : Int) (σ : St) : ∃ σ', Fr σ σ' ∧ Cw TS false 47 [.int .i32 c] σ = some (.int .u8 (classS c), σ') := by
  obtain ⟨σ1, hf1, hs⟩ := spans_ok σ
  rw [Cw_of fn47 false _ σ rfl]
  simp only [c47, sC, stepOp, opMov, sF, Nat.reduceAdd, opCall, argsOf, hs]
  generalize hr : Ew TS false (.loop L47_1) _ _ = r
  obtain ⟨e, σ', hf, ⟨h1, rfl⟩ | ⟨rfl, h3⟩⟩ := class_loop c 146 0 _ _ r hr (by omega) (by simp only [V_U, Nat.reduceEqDiff, reduceIte]) (by simp only [V_U, Nat.reduceEqDiff, reduceIte]) (by simp only [V_U, Nat.reduceEqDiff, reduceIte]; rfl)
  · refine ⟨σ', hf1.trans hf, ?_⟩
    have h1 : classS c = 1 := h1
    simp only [sC, reduceIte, sF, h1]
  · refine ⟨σ', hf1.trans hf, ?_⟩
    have h3 : V e 2 = .int .u8 (classS c) := h3
    simp only [sF, h3]
end Go.Ab.Dirs
end
