/- tree.nested. -/
import Derived.Test.YthbanbnmomcohaaGreatDoorP7
set_option maxRecDepth 10000
noncomputable section
namespace Go.Ab.Dirs
open Go Go.Ab

/-- The name of a node. -/
def nmS (t : List ND) (p : Nat) : List Nat := match t[p]? with | some n => n.name | none => []
theorem nmS_at {t : List ND} {p : Nat} (h : p < t.length) : nmS t p = t[p].name := by
  unfold nmS; rw [List.getElem?_eq_getElem h]

/-- May an element of kind k not stand below one named w? -/
def badS (k : Nat) (w : List Nat) (free : Bool) : Bool :=
  (endsS k && decide (w = [112])) || (decide (k = 6) && decide (w = [97])) || (decide (k = 3) && decide (w = [108, 105]) && !free)
/-- Up a path, from a place on. -/
def nestG (t : List ND) (k : Nat) (path : List Nat) : Nat → Bool → Bool
  | 0, _ => true
  | i + 1, free => if badS k (nmS t (path.getD (i + 1) 0)) free then false else nestG t k path i (free || wallS (nmS t (path.getD (i + 1) 0)))
def nestedS (t : List ND) (path : List Nat) (name : List Nat) : Bool :=
  !(decide (kindS name = 4) && decide (kindS (nmS t (path.getD (path.length - 1) 0)) = 4)) && nestG t (kindS name) path (path.length - 1) false

set_option maxHeartbeats 4000000 in
theorem nested_loop (q : Bool) (tv pv : AVal) (t : List ND) (path : List Nat) (k : Nat) (hb : path.length < 9223372036854775808) (hp : ∀ p ∈ path, p < t.length) (σ : St) (ht : TreeI σ tv t) (hpv : IntsI σ pv (path.map Int.ofNat)) :
    ∀ (i : Nat) (free : Bool) (env : Env) (r : Option (Out × Env × St)), Ew TS q (.loop L44_1) env σ = r → i < path.length →
    V env 0 = tv → V env 1 = pv → V env 7 = .int .u8 (k : Int) → V env 8 = .bool free → V env 9 = .int .i64 (i : Int) →
    ∃ e, ((nestG t k path i free = true ∧ r = some (.exit 0, e, σ)) ∨ (nestG t k path i free = false ∧ r = some (.ret, e, σ) ∧ V e 6 = .bool false))
  | 0, free, env, r, hr, hi, h0, h1, h7, h8, h9 => by
    simp only [Int.natCast_zero] at h9
    have hlt : ¬ ((0 : Int) < 0) := by omega
    rw [Ew_loop] at hr
    simp only [L44_1, sC, reduceIte, Nat.reduceEqDiff, stepOp, opMov, opArith, arith, sO, h9, hlt] at hr
    exact ⟨_, .inl ⟨rfl, hr.symm⟩⟩
  | i + 1, free, env, r, hr, hi, h0, h1, h7, h8, h9 => by
    have hlt : (0 : Int) < ((i + 1 : Nat) : Int) := by omega
    have hw : wrapI .i64 (((i + 1 : Nat) : Int) - 1) = (i : Int) := by rw [wrap_i64 (by omega) (by omega)]; omega
    obtain ⟨g1, g2⟩ := hpv.get (i := i + 1) (by simpa using hi) (k := .i64)
    have hpm : path[i + 1] < t.length := hp _ (List.getElem_mem _)
    simp only [List.getElem_map, Int.ofNat_eq_natCast] at g2
    obtain ⟨av, kv, x1, x2⟩ := ht.get hpm
    have x1 := x1 .i64
    have hnm : nmS t (path.getD (i + 1) 0) = t[path[i + 1]].name := by
      rw [List.getD_eq_getElem?_getD, List.getElem?_eq_getElem hi, Option.getD_some, nmS_at hpm]
    have hE := ends_ok q k σ
    have hW := wall_ok q t[path[i + 1]].name σ
    have ih := fun fr e => nested_loop q tv pv t path k hb hp σ ht hpv i fr e r
    rw [nestG, hnm]
    have hn := x2.l1
    have f1 := x2.f1
    clear hnm x2
    generalize t[path[i + 1]].name = w at *
    rw [Ew_loop] at hr
    cases hEn : endsS k with
    | true =>
      rw [hEn] at hE
      have k6 : ¬ k = 6 := by intro e; subst e; simp [endsS] at hEn
      have k6' : ¬ (k : Int) = 6 := by omega
      by_cases wp : w = [112]
      · have wp' := eq_true wp
        have hbd : badS k w free = true := by simp [badS, hEn, wp]
        rw [hbd, if_pos rfl]
        simp only [L44_1, sC, reduceIte, Nat.reduceEqDiff, stepOp, undefA, opMov, opPick, opArith, arith, opStrop, strop, sO, reduceCtorEq, sM, h0, h1, h7, h9, hlt, g1, g2, x1, f1, hn, opCall, argsOf, hE, wp'] at hr
        exact ⟨_, .inr ⟨rfl, hr.symm, by simp only [V_U, Nat.reduceEqDiff, reduceIte]⟩⟩
      · by_cases k3 : k = 3
        · have k3' := eq_true (show (k : Int) = 3 by omega)
          by_cases wl : w = [108, 105]
          · have wl' := eq_true wl
            cases hfr : free with
            | false =>
              subst hfr
              have hbd : badS k w false = true := by simp [badS, k3, wl]
              rw [hbd, if_pos rfl]
              simp only [L44_1, sC, reduceIte, Nat.reduceEqDiff, stepOp, undefA, opMov, opPick, opArith, arith, opStrop, strop, opNot, sO, reduceCtorEq, sM, h0, h1, h7, h8, h9, hlt, g1, g2, x1, f1, hn, opCall, argsOf, hE, wp, k6', k3', wl'] at hr
              exact ⟨_, .inr ⟨rfl, hr.symm, by simp only [V_U, Nat.reduceEqDiff, reduceIte]⟩⟩
            | true =>
              subst hfr
              have hbd : badS k w true = false := by simp [badS, wp, k6]
              rw [hbd, if_neg (by decide)]
              simp only [L44_1, sC, reduceIte, Nat.reduceEqDiff, stepOp, undefA, opMov, opPick, opArith, arith, opStrop, strop, opNot, sO, reduceCtorEq, sM, h0, h1, h7, h8, h9, hlt, g1, g2, x1, f1, hn, opCall, argsOf, hE, hw, wp, k6', k3', wl'] at hr
              exact ih true _ hr (by omega) (by simp only [V_U, Nat.reduceEqDiff, reduceIte, h0]) (by simp only [V_U, Nat.reduceEqDiff, reduceIte, h1]) (by simp only [V_U, Nat.reduceEqDiff, reduceIte, h7]) (by simp only [V_U, Nat.reduceEqDiff, reduceIte]) (by simp only [V_U, Nat.reduceEqDiff, reduceIte])
          · have hbd : badS k w free = false := by simp [badS, wp, k6, wl]
            rw [hbd, if_neg (by decide)]
            cases free with
            | true =>
              simp only [L44_1, sC, reduceIte, Nat.reduceEqDiff, stepOp, undefA, opMov, opPick, opArith, arith, opStrop, strop, sO, reduceCtorEq, sM, h0, h1, h7, h8, h9, hlt, g1, g2, x1, f1, hn, opCall, argsOf, hE, hw, wp, k6', k3', wl] at hr
              exact ih true _ hr (by omega) (by simp only [V_U, Nat.reduceEqDiff, reduceIte, h0]) (by simp only [V_U, Nat.reduceEqDiff, reduceIte, h1]) (by simp only [V_U, Nat.reduceEqDiff, reduceIte, h7]) (by simp only [V_U, Nat.reduceEqDiff, reduceIte]) (by simp only [V_U, Nat.reduceEqDiff, reduceIte])
            | false =>
              simp only [L44_1, sC, reduceIte, Nat.reduceEqDiff, stepOp, undefA, opMov, opPick, opArith, arith, opStrop, strop, sO, reduceCtorEq, sM, h0, h1, h7, h8, h9, hlt, g1, g2, x1, f1, hn, opCall, argsOf, hE, hw, wp, k6', k3', wl, hW] at hr
              exact ih (wallS w) _ hr (by omega) (by simp only [V_U, Nat.reduceEqDiff, reduceIte, h0]) (by simp only [V_U, Nat.reduceEqDiff, reduceIte, h1]) (by simp only [V_U, Nat.reduceEqDiff, reduceIte, h7]) (by simp only [V_U, Nat.reduceEqDiff, reduceIte]) (by simp only [V_U, Nat.reduceEqDiff, reduceIte])
        · have k3' : ¬ (k : Int) = 3 := by omega
          have hbd : badS k w free = false := by simp [badS, wp, k6, k3]
          rw [hbd, if_neg (by decide)]
          cases free with
          | true =>
            simp only [L44_1, sC, reduceIte, Nat.reduceEqDiff, stepOp, undefA, opMov, opPick, opArith, arith, opStrop, strop, sO, reduceCtorEq, sM, h0, h1, h7, h8, h9, hlt, g1, g2, x1, f1, hn, opCall, argsOf, hE, hw, wp, k6', k3'] at hr
            exact ih true _ hr (by omega) (by simp only [V_U, Nat.reduceEqDiff, reduceIte, h0]) (by simp only [V_U, Nat.reduceEqDiff, reduceIte, h1]) (by simp only [V_U, Nat.reduceEqDiff, reduceIte, h7]) (by simp only [V_U, Nat.reduceEqDiff, reduceIte]) (by simp only [V_U, Nat.reduceEqDiff, reduceIte])
          | false =>
            simp only [L44_1, sC, reduceIte, Nat.reduceEqDiff, stepOp, undefA, opMov, opPick, opArith, arith, opStrop, strop, sO, reduceCtorEq, sM, h0, h1, h7, h8, h9, hlt, g1, g2, x1, f1, hn, opCall, argsOf, hE, hw, wp, k6', k3', hW] at hr
            exact ih (wallS w) _ hr (by omega) (by simp only [V_U, Nat.reduceEqDiff, reduceIte, h0]) (by simp only [V_U, Nat.reduceEqDiff, reduceIte, h1]) (by simp only [V_U, Nat.reduceEqDiff, reduceIte, h7]) (by simp only [V_U, Nat.reduceEqDiff, reduceIte]) (by simp only [V_U, Nat.reduceEqDiff, reduceIte])
    | false =>
      rw [hEn] at hE
      have k3 : ¬ k = 3 := by intro e; subst e; simp [endsS] at hEn
      have k3' : ¬ (k : Int) = 3 := by omega
      by_cases k6 : k = 6
      · have k6' := eq_true (show (k : Int) = 6 by omega)
        have k63 : ¬ (6 : Int) = 3 := by omega
        by_cases wa : w = [97]
        · have wa' := eq_true wa
          have hbd : badS k w free = true := by simp [badS, k6, wa]
          rw [hbd, if_pos rfl]
          simp only [L44_1, sC, reduceIte, Nat.reduceEqDiff, stepOp, undefA, opMov, opPick, opArith, arith, opStrop, strop, sO, reduceCtorEq, sM, h0, h1, h7, h9, hlt, g1, g2, x1, f1, hn, opCall, argsOf, hE, k6', wa'] at hr
          exact ⟨_, .inr ⟨rfl, hr.symm, by simp only [V_U, Nat.reduceEqDiff, reduceIte]⟩⟩
        · have hbd : badS k w free = false := by simp [badS, hEn, wa, k3]
          rw [hbd, if_neg (by decide)]
          cases free with
          | true =>
            simp only [L44_1, sC, reduceIte, Nat.reduceEqDiff, stepOp, undefA, opMov, opPick, opArith, arith, opStrop, strop, sO, reduceCtorEq, sM, h0, h1, h7, h8, h9, hlt, g1, g2, x1, f1, hn, opCall, argsOf, hE, hw, k6', k3', wa] at hr
            exact ih true _ hr (by omega) (by simp only [V_U, Nat.reduceEqDiff, reduceIte, h0]) (by simp only [V_U, Nat.reduceEqDiff, reduceIte, h1]) (by simp only [V_U, Nat.reduceEqDiff, reduceIte, h7]) (by simp only [V_U, Nat.reduceEqDiff, reduceIte]) (by simp only [V_U, Nat.reduceEqDiff, reduceIte])
          | false =>
            simp only [L44_1, sC, reduceIte, Nat.reduceEqDiff, stepOp, undefA, opMov, opPick, opArith, arith, opStrop, strop, sO, reduceCtorEq, sM, h0, h1, h7, h8, h9, hlt, g1, g2, x1, f1, hn, opCall, argsOf, hE, hw, k6', k3', wa, hW] at hr
            exact ih (wallS w) _ hr (by omega) (by simp only [V_U, Nat.reduceEqDiff, reduceIte, h0]) (by simp only [V_U, Nat.reduceEqDiff, reduceIte, h1]) (by simp only [V_U, Nat.reduceEqDiff, reduceIte, h7]) (by simp only [V_U, Nat.reduceEqDiff, reduceIte]) (by simp only [V_U, Nat.reduceEqDiff, reduceIte])
      · have k6' : ¬ (k : Int) = 6 := by omega
        have hbd : badS k w free = false := by simp [badS, hEn, k6, k3]
        rw [hbd, if_neg (by decide)]
        cases free with
        | true =>
          simp only [L44_1, sC, reduceIte, Nat.reduceEqDiff, stepOp, undefA, opMov, opPick, opArith, arith, sO, reduceCtorEq, sM, h0, h1, h7, h8, h9, hlt, g1, g2, x1, f1, hn, opCall, argsOf, hE, hw, k6', k3'] at hr
          exact ih true _ hr (by omega) (by simp only [V_U, Nat.reduceEqDiff, reduceIte, h0]) (by simp only [V_U, Nat.reduceEqDiff, reduceIte, h1]) (by simp only [V_U, Nat.reduceEqDiff, reduceIte, h7]) (by simp only [V_U, Nat.reduceEqDiff, reduceIte]) (by simp only [V_U, Nat.reduceEqDiff, reduceIte])
        | false =>
          simp only [L44_1, sC, reduceIte, Nat.reduceEqDiff, stepOp, undefA, opMov, opPick, opArith, arith, sO, reduceCtorEq, sM, h0, h1, h7, h8, h9, hlt, g1, g2, x1, f1, hn, opCall, argsOf, hE, hw, k6', k3', hW] at hr
          exact ih (wallS w) _ hr (by omega) (by simp only [V_U, Nat.reduceEqDiff, reduceIte, h0]) (by simp only [V_U, Nat.reduceEqDiff, reduceIte, h1]) (by simp only [V_U, Nat.reduceEqDiff, reduceIte, h7]) (by simp only [V_U, Nat.reduceEqDiff, reduceIte]) (by simp only [V_U, Nat.reduceEqDiff, reduceIte])

theorem nested_ok (q : Bool) (tv pv : AVal) (t : List ND) (path : List Nat) (name : List Nat) (hb : path.length < 9223372036854775808) (hpos : 0 < path.length) (hp : ∀ p ∈ path, p < t.length) (σ : St) (ht : TreeI σ tv t) (hpv : IntsI σ pv (path.map Int.ofNat)) :
    Cw TS q 44 [tv, pv, .str name] σ = some (.bool (nestedS t path name), σ) := by
  have hl := SlI.len hpv
  rw [List.length_map] at hl
  have hK := Kind_ok q name σ
  have hw : wrapI .i64 ((path.length : Int) - 1) = ((path.length - 1 : Nat) : Int) := by rw [wrap_i64 (by omega) (by omega)]; omega
  have hi : path.length - 1 < path.length := by omega
  obtain ⟨g1, g2⟩ := hpv.get (i := path.length - 1) (by simpa using hi) (k := .i64)
  have hpm : path[path.length - 1] < t.length := hp _ (List.getElem_mem _)
  simp only [List.getElem_map, Int.ofNat_eq_natCast] at g2
  obtain ⟨av, kv, x1, x2⟩ := ht.get hpm
  have x1 := x1 .i64
  have hnm : nmS t (path.getD (path.length - 1) 0) = t[path[path.length - 1]].name := by
    rw [List.getD_eq_getElem?_getD, List.getElem?_eq_getElem hi, Option.getD_some, nmS_at hpm]
  have hK2 := Kind_ok q t[path[path.length - 1]].name σ
  have lp := fun e => nested_loop q tv pv t path (kindS name) hb hp σ ht hpv (path.length - 1) false e
  have fin1 : ∀ r, (∃ e, ((nestG t (kindS name) path (path.length - 1) false = true ∧ r = some (Out.exit 0, e, σ)) ∨ (nestG t (kindS name) path (path.length - 1) false = false ∧ r = some (Out.ret, e, σ) ∧ V e 6 = .bool false))) → True := fun _ _ => trivial
  rw [Cw_of fn44 q _ σ rfl]
  by_cases c1 : kindS name = 4
  · have c1' := eq_true (show (kindS name : Int) = 4 by omega)
    by_cases c2 : kindS t[path[path.length - 1]].name = 4
    · have c2' := eq_true (show (kindS t[path[path.length - 1]].name : Int) = 4 by omega)
      have hs : nestedS t path name = false := by unfold nestedS; rw [hnm]; simp [c1, c2]
      simp only [c44, sC, reduceIte, Nat.reduceEqDiff, stepOp, opMov, opPick, opArith, arith, sO, reduceCtorEq, sF, Nat.reduceAdd, opIaSl_s, opFieldAddr_s, opLoad_s, opCall, argsOf, hl, hw, hK, g1, g2, x1, x2.f1, x2.l1, hK2, c1', c2', hs]
    · have c2' : ¬ (kindS t[path[path.length - 1]].name : Int) = 4 := by omega
      have hs : nestedS t path name = nestG t (kindS name) path (path.length - 1) false := by unfold nestedS; rw [hnm]; simp [c1, c2]
      simp only [c44, sC, reduceIte, Nat.reduceEqDiff, stepOp, opMov, opPick, opArith, arith, sO, reduceCtorEq, sF, Nat.reduceAdd, opIaSl_s, opFieldAddr_s, opLoad_s, opCall, argsOf, hl, hw, hK, g1, g2, x1, x2.f1, x2.l1, hK2, c1', c2', hs]
      generalize hr : Ew TS q (.loop L44_1) _ _ = r
      obtain ⟨e, ⟨a, rfl⟩ | ⟨a, rfl, b⟩⟩ := lp _ r hr hi (by simp only [V_U, Nat.reduceEqDiff, reduceIte]) (by simp only [V_U, Nat.reduceEqDiff, reduceIte]) (by simp only [V_U, Nat.reduceEqDiff, reduceIte]) (by simp only [V_U, Nat.reduceEqDiff, reduceIte]) (by simp only [V_U, Nat.reduceEqDiff, reduceIte])
      · simp only [sC, reduceIte, sF, a]
      · simp only [sF, a, b]
  · have c1' : ¬ (kindS name : Int) = 4 := by omega
    have hs : nestedS t path name = nestG t (kindS name) path (path.length - 1) false := by unfold nestedS; rw [hnm]; simp [c1]
    simp only [c44, sC, reduceIte, Nat.reduceEqDiff, stepOp, undefA, opMov, opPick, opArith, arith, sO, reduceCtorEq, sF, Nat.reduceAdd, opCall, argsOf, hl, hw, hK, c1', hs]
    generalize hr : Ew TS q (.loop L44_1) _ _ = r
    obtain ⟨e, ⟨a, rfl⟩ | ⟨a, rfl, b⟩⟩ := lp _ r hr hi (by simp only [V_U, Nat.reduceEqDiff, reduceIte]) (by simp only [V_U, Nat.reduceEqDiff, reduceIte]) (by simp only [V_U, Nat.reduceEqDiff, reduceIte]) (by simp only [V_U, Nat.reduceEqDiff, reduceIte]) (by simp only [V_U, Nat.reduceEqDiff, reduceIte])
    · simp only [sC, reduceIte, sF, a]
    · simp only [sF, a, b]
end Go.Ab.Dirs
end
