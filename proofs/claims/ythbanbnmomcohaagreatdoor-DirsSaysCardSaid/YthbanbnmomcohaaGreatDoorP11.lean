/- tree.fits. -/
import Derived.Test.YthbanbnmomcohaaGreatDoorP10
set_option maxRecDepth 10000
noncomputable section
namespace Go.Ab.Dirs
open Go Go.Ab

/-- The strings and rows of a tree are a program's. -/
structure NWF (n : ND) : Prop where
  name : SWF n.name
  data : SWF n.data
  attrs : ∀ a ∈ n.attrs, SWF a.1 ∧ SWF a.2
  alen : n.attrs.length < 9223372036854775808
  klen : n.kids.length < 9223372036854775808

def plainS (n : ND) : Bool := decide (n.name = []) && decide (n.attrs.length = 0)
def kdS (t : List ND) (z : Int) : Nat := match t[z.toNat]? with | some n => n.kind | none => 0
def upOf (t : List ND) (path : List Nat) : ND := t.getD (path.getD (path.length - 1) 0) ⟨0, [], [], [], 0, []⟩
def upBad (u : ND) : Bool := decide (u.kind = 2) || (decide (u.kind = 1) && decide (7 ≤ kindS u.name))
def prevS (t : List ND) (u : ND) (i : Nat) : Bool := decide (idxS (i : Int) u.kids 0 < 1) || decide (kdS t (u.kids.getD (idxS (i : Int) u.kids 0 - 1).toNat 0) ≠ 2)
/-- May a node stand below a path? -/
def fitsS (t : List ND) (path : List Nat) (i : Nat) (n : ND) : Bool :=
  if i = 0 then plainS n && decide (n.data = []) else
  if upBad (upOf t path) then false else
  if n.kind = 2 then plainS n && (decide (n.data ≠ []) && (wellS n.data && prevS t (upOf t path) i)) else
  if n.kind = 1 then decide (n.data = []) && (decide (0 < kindS n.name) && (attrsS n.attrs && (decide (path.length ≤ 200) && nestedS t path n.name))) else false

/-- A node's copy in a block. -/
def Copy (σ : St) (b : Nat) (n : ND) (av kv : AVal) : Prop :=
  (∃ f e, σ.get b = some (.cells f e [.int .u8 (n.kind : Int), .str n.name, av, .str n.data, .int .i64 n.up, kv])) ∧ b < σ.next ∧ AttrsI σ av n.attrs ∧ IntsI σ kv n.kids
theorem Copy.fr {σ σ' : St} {b : Nat} {n : ND} {av kv : AVal} (h : Copy σ b n av kv) (hf : Fr σ σ') : Copy σ' b n av kv := by
  obtain ⟨⟨f, e, h1⟩, h2, h3, h4⟩ := h
  exact ⟨⟨f, e, by rw [hf.get _ h2]; exact h1⟩, Nat.lt_of_lt_of_le h2 hf.next, h3.fr hf, h4.fr hf⟩

section
variable {σ : St} {e : Env} {r : Option (Out × Env × St)} {n : ND} {av kv : AVal} {b : Nat}

theorem fits_2 (hr : Ew TS false B26_2 e σ = r) (hc : Copy σ b n av kv) (h7 : V e 7 = .ptr b 0) : ∃ e', r = some (.normal, e', σ) ∧ V e' 8 = .bool (plainS n) ∧ V e' 0 = V e 0 ∧ V e' 1 = V e 1 ∧ V e' 2 = V e 2 ∧ V e' 7 = V e 7 := by
  obtain ⟨⟨f, t, hg⟩, hlt, ha, hk⟩ := hc
  have hl := SlI.len ha
  by_cases h1 : n.name = []
  · have h1' := eq_true h1
    by_cases h2 : (n.attrs.length : Int) = 0
    · have hp : plainS n = true := by simp [plainS, h1]; exact List.eq_nil_of_length_eq_zero (by omega)
      have h2' := eq_true h2
      simp only [B26_2, sC, reduceIte, Nat.reduceEqDiff, stepOp, opMov, opPick, opArith, arith, opStrop, strop, sO, sM, h7, hg, h1', hl, h2'] at hr
      exact ⟨_, hr.symm, by simp only [V_U, Nat.reduceEqDiff, reduceIte, hp], by simp only [V_U, Nat.reduceEqDiff, reduceIte], by simp only [V_U, Nat.reduceEqDiff, reduceIte], by simp only [V_U, Nat.reduceEqDiff, reduceIte], by simp only [V_U, Nat.reduceEqDiff, reduceIte]⟩
    · have hp : plainS n = false := by simp [plainS]; intro _ h; apply h2; rw [h]; rfl
      simp only [B26_2, sC, reduceIte, Nat.reduceEqDiff, stepOp, opMov, opPick, opArith, arith, opStrop, strop, sO, sM, h7, hg, h1', hl, h2] at hr
      exact ⟨_, hr.symm, by simp only [V_U, Nat.reduceEqDiff, reduceIte, hp], by simp only [V_U, Nat.reduceEqDiff, reduceIte], by simp only [V_U, Nat.reduceEqDiff, reduceIte], by simp only [V_U, Nat.reduceEqDiff, reduceIte], by simp only [V_U, Nat.reduceEqDiff, reduceIte]⟩
  · have hp : plainS n = false := by simp [plainS, h1]
    simp only [B26_2, sC, reduceIte, Nat.reduceEqDiff, stepOp, undefA, opMov, opPick, opStrop, strop, sO, sM, h7, hg, h1] at hr
    exact ⟨_, hr.symm, by simp only [V_U, Nat.reduceEqDiff, reduceIte, hp], by simp only [V_U, Nat.reduceEqDiff, reduceIte], by simp only [V_U, Nat.reduceEqDiff, reduceIte], by simp only [V_U, Nat.reduceEqDiff, reduceIte], by simp only [V_U, Nat.reduceEqDiff, reduceIte]⟩

theorem fits_6 (hr : Ew TS false B26_6 e σ = r) (hc : Copy σ b n av kv) (h9 : V e 9 = .ptr b 0) : ∃ e', r = some (.normal, e', σ) ∧ V e' 54 = .bool (upBad n) ∧ V e' 0 = V e 0 ∧ V e' 1 = V e 1 ∧ V e' 2 = V e 2 ∧ V e' 7 = V e 7 ∧ V e' 8 = V e 8 ∧ V e' 9 = V e 9 := by
  obtain ⟨⟨f, t, hg⟩, hlt, ha, hk⟩ := hc
  have hK := Kind_ok false n.name σ
  by_cases h1 : (n.kind : Int) = 2
  · have hp : upBad n = true := by simp [upBad]; left; omega
    have h1' := eq_true h1
    simp only [B26_6, sC, reduceIte, Nat.reduceEqDiff, stepOp, undefA, opMov, opPick, opArith, arith, sO, sM, h9, hg, h1'] at hr
    exact ⟨_, hr.symm, by simp only [V_U, Nat.reduceEqDiff, reduceIte, hp], by simp only [V_U, Nat.reduceEqDiff, reduceIte], by simp only [V_U, Nat.reduceEqDiff, reduceIte], by simp only [V_U, Nat.reduceEqDiff, reduceIte], by simp only [V_U, Nat.reduceEqDiff, reduceIte], by simp only [V_U, Nat.reduceEqDiff, reduceIte], by simp only [V_U, Nat.reduceEqDiff, reduceIte]⟩
  · by_cases h2 : (n.kind : Int) = 1
    · have h2' := eq_true h2
      by_cases h3 : (7 : Int) ≤ (kindS n.name : Int)
      · have hp : upBad n = true := by simp [upBad]; right; omega
        simp only [B26_6, sC, reduceIte, Nat.reduceEqDiff, stepOp, opMov, opPick, opArith, arith, sO, sM, h9, hg, h1, h2', opCall, argsOf, hK, h3] at hr
        exact ⟨_, hr.symm, by simp only [V_U, Nat.reduceEqDiff, reduceIte, hp], by simp only [V_U, Nat.reduceEqDiff, reduceIte], by simp only [V_U, Nat.reduceEqDiff, reduceIte], by simp only [V_U, Nat.reduceEqDiff, reduceIte], by simp only [V_U, Nat.reduceEqDiff, reduceIte], by simp only [V_U, Nat.reduceEqDiff, reduceIte], by simp only [V_U, Nat.reduceEqDiff, reduceIte]⟩
      · have hp : upBad n = false := by simp [upBad]; omega
        simp only [B26_6, sC, reduceIte, Nat.reduceEqDiff, stepOp, opMov, opPick, opArith, arith, sO, sM, h9, hg, h1, h2', opCall, argsOf, hK, h3] at hr
        exact ⟨_, hr.symm, by simp only [V_U, Nat.reduceEqDiff, reduceIte, hp], by simp only [V_U, Nat.reduceEqDiff, reduceIte], by simp only [V_U, Nat.reduceEqDiff, reduceIte], by simp only [V_U, Nat.reduceEqDiff, reduceIte], by simp only [V_U, Nat.reduceEqDiff, reduceIte], by simp only [V_U, Nat.reduceEqDiff, reduceIte], by simp only [V_U, Nat.reduceEqDiff, reduceIte]⟩
    · have hp : upBad n = false := by simp [upBad]; omega
      simp only [B26_6, sC, reduceIte, Nat.reduceEqDiff, stepOp, undefA, opMov, opPick, opArith, arith, sO, sM, h9, hg, h1, h2] at hr
      exact ⟨_, hr.symm, by simp only [V_U, Nat.reduceEqDiff, reduceIte, hp], by simp only [V_U, Nat.reduceEqDiff, reduceIte], by simp only [V_U, Nat.reduceEqDiff, reduceIte], by simp only [V_U, Nat.reduceEqDiff, reduceIte], by simp only [V_U, Nat.reduceEqDiff, reduceIte], by simp only [V_U, Nat.reduceEqDiff, reduceIte], by simp only [V_U, Nat.reduceEqDiff, reduceIte]⟩

/-- A text. -/
theorem fits_8 {tv : AVal} {t : List ND} {b2 i : Nat} {n2 : ND} {av2 kv2 : AVal} (hr : Ew TS false B26_8 e σ = r) (hwf : NWF n) (hc : Copy σ b n av kv) (hc2 : Copy σ b2 n2 av2 kv2) (ht : TreeI σ tv t) (hk2 : n2.kids.length < 9223372036854775808)
    (hv : ∀ j : Nat, idxS (i : Int) n2.kids 0 = ((j + 1 : Nat) : Int) → ∃ z : Nat, ∃ (h : j < n2.kids.length), n2.kids[j] = (z : Int) ∧ z < t.length)
    (hidx : idxS (i : Int) n2.kids 0 < 1 ∨ ∃ j : Nat, idxS (i : Int) n2.kids 0 = ((j + 1 : Nat) : Int))
    (h0 : V e 0 = tv) (h7 : V e 7 = .ptr b 0) (h8 : V e 8 = .bool (plainS n)) (h9 : V e 9 = .ptr b2 0) (h10 : V e 10 = .int .i64 (idxS (i : Int) n2.kids 0)) :
    ∃ e' σ', Fr σ σ' ∧ r = some (.normal, e', σ') ∧ V e' 6 = .bool (plainS n && (decide (n.data ≠ []) && (wellS n.data && prevS t n2 i))) := by
  cases hp : plainS n with
  | false =>
    rw [hp] at h8
    simp only [B26_8, sC, reduceIte, Nat.reduceEqDiff, stepOp, undefA, opMov, opPick, sO, h8] at hr
    exact ⟨_, _, Fr.refl _, hr.symm, by simp only [V_U, Nat.reduceEqDiff, reduceIte, Bool.false_and]⟩
  | true =>
    rw [hp] at h8
    obtain ⟨⟨f, ty, hg⟩, hlt, ha, hk⟩ := hc
    by_cases hd : n.data = []
    · have hd' := eq_true hd
      have hx : decide (n.data ≠ []) = false := by simp [hd]
      simp only [B26_8, sC, reduceIte, Nat.reduceEqDiff, stepOp, undefA, opMov, opPick, opStrop, strop, sO, sM, h7, h8, hg, hd'] at hr
      exact ⟨_, _, Fr.refl _, hr.symm, by simp only [V_U, Nat.reduceEqDiff, reduceIte, hx, Bool.false_and, Bool.true_and]⟩
    · obtain ⟨σ1, hf1, hW⟩ := well_ok n.data σ hwf.data.1 hwf.data.2
      have hx : decide (n.data ≠ []) = true := by simp [hd]
      cases hw : wellS n.data with
      | false =>
        rw [hw] at hW
        simp only [B26_8, sC, reduceIte, Nat.reduceEqDiff, stepOp, undefA, opMov, opPick, opStrop, strop, sO, sM, h7, h8, hg, hd, opCall, argsOf, hW] at hr
        exact ⟨_, _, hf1, hr.symm, by simp only [V_U, Nat.reduceEqDiff, reduceIte, hx, Bool.false_and, Bool.true_and]⟩
      | true =>
        rw [hw] at hW
        by_cases h1 : idxS (i : Int) n2.kids 0 < 1
        · have hq : prevS t n2 i = true := by simp [prevS, h1]
          simp only [B26_8, sC, reduceIte, Nat.reduceEqDiff, stepOp, undefA, opMov, opPick, opArith, arith, opStrop, strop, sO, sM, h7, h8, h10, hg, hd, opCall, argsOf, hW, h1] at hr
          exact ⟨_, _, hf1, hr.symm, by simp only [V_U, Nat.reduceEqDiff, reduceIte, hx, hq, Bool.true_and]⟩
        · obtain ⟨j, hj⟩ := hidx.resolve_left h1
          obtain ⟨z, hjl, hz, hzt⟩ := hv j hj
          obtain ⟨⟨f2, ty2, hg2⟩, hlt2, ha2, hkk2⟩ := hc2.fr hf1
          obtain ⟨g1, g2⟩ := hkk2.get hjl (k := .i64)
          rw [hz] at g2
          obtain ⟨av3, kv3, x1, x2⟩ := (ht.fr hf1).get hzt
          have x1 := x1 .i64
          have l0 := x2.l0
          have f0 := x2.f0
          have hwr : wrapI .i64 (((j + 1 : Nat) : Int) - 1) = (j : Int) := by rw [wrap_i64 (by omega) (by omega)]; omega
          have h1' : ¬ ((j + 1 : Nat) : Int) < 1 := by omega
          rw [hj] at h10
          have hkd : kdS t (n2.kids.getD (idxS (i : Int) n2.kids 0 - 1).toNat 0) = t[z].kind := by
            rw [hj]
            have : (((j + 1 : Nat) : Int) - 1).toNat = j := by omega
            rw [this, List.getD_eq_getElem?_getD, List.getElem?_eq_getElem hjl, Option.getD_some, hz]
            simp [kdS, hzt]
          by_cases h2 : (t[z].kind : Int) = 2
          · have hq : prevS t n2 i = false := by simp only [prevS, h1, hkd, decide_false, Bool.false_or, decide_eq_false_iff_not]; omega
            have h2' := eq_true h2
            simp only [B26_8, sC, reduceIte, Nat.reduceEqDiff, stepOp, opMov, opPick, opArith, arith, opStrop, strop, sO, reduceCtorEq, sM, h0, h7, h8, h9, h10, hg, hg2, hd, opCall, argsOf, hW, h1', hwr, g1, g2, x1, f0, l0, h2'] at hr
            exact ⟨_, _, hf1, hr.symm, by simp only [V_U, Nat.reduceEqDiff, reduceIte, hx, hq, Bool.true_and]⟩
          · have hq : prevS t n2 i = true := by simp only [prevS, h1, hkd, decide_false, Bool.false_or, decide_eq_true_iff]; omega
            simp only [B26_8, sC, reduceIte, Nat.reduceEqDiff, stepOp, opMov, opPick, opArith, arith, opStrop, strop, sO, reduceCtorEq, sM, h0, h7, h8, h9, h10, hg, hg2, hd, opCall, argsOf, hW, h1', hwr, g1, g2, x1, f0, l0, h2] at hr
            exact ⟨_, _, hf1, hr.symm, by simp only [V_U, Nat.reduceEqDiff, reduceIte, hx, hq, Bool.true_and]⟩

/-- An element. -/
theorem fits_9 {tv pv : AVal} {t : List ND} {path : List Nat} (hr : Ew TS false B26_9 e σ = r) (hwf : NWF n) (hc : Copy σ b n av kv) (ht : TreeI σ tv t) (hb : path.length < 9223372036854775808) (hpos : 0 < path.length) (hp : ∀ p ∈ path, p < t.length) (hpv : IntsI σ pv (path.map Int.ofNat))
    (h0 : V e 0 = tv) (h1 : V e 1 = pv) (h7 : V e 7 = .ptr b 0) :
    ∃ e' σ', Fr σ σ' ∧ r = some (.normal, e', σ') ∧ V e' 6 = .bool (decide (n.data = []) && (decide (0 < kindS n.name) && (attrsS n.attrs && (decide (path.length ≤ 200) && nestedS t path n.name)))) := by
  obtain ⟨⟨f, ty, hg⟩, hlt, ha, hk⟩ := hc
  have hK := Kind_ok false n.name σ
  by_cases c1 : n.data = []
  · have c1' := eq_true c1
    by_cases c2 : (0 : Int) < (kindS n.name : Int)
    · have c2' : decide (0 < kindS n.name) = true := by simp; omega
      obtain ⟨σ1, hf1, hA⟩ := attrs_ok av n.attrs σ hwf.alen hwf.attrs ha
      cases c3 : attrsS n.attrs with
      | false =>
        rw [c3] at hA
        simp only [B26_9, sC, reduceIte, Nat.reduceEqDiff, stepOp, undefA, opMov, opPick, opArith, arith, opStrop, strop, sO, sM, h7, hg, c1', opCall, argsOf, hK, c2, hA] at hr
        exact ⟨_, _, hf1, hr.symm, by simp only [V_U, Nat.reduceEqDiff, reduceIte, c2', c1', decide_true, Bool.true_and, Bool.false_and]⟩
      | true =>
        rw [c3] at hA
        have hl := SlI.len (hpv.fr hf1)
        rw [List.length_map] at hl
        by_cases c4 : (path.length : Int) ≤ 200
        · have c4' : decide (path.length ≤ 200) = true := by simp; omega
          have hN := nested_ok false tv pv t path n.name hb hpos hp σ1 (ht.fr hf1) (hpv.fr hf1)
          have hg1 : σ1.get b = some (.cells f ty [.int .u8 (n.kind : Int), .str n.name, av, .str n.data, .int .i64 n.up, kv]) := by rw [hf1.get _ hlt]; exact hg
          simp only [B26_9, sC, reduceIte, Nat.reduceEqDiff, stepOp, opMov, opPick, opArith, arith, opStrop, strop, sO, reduceCtorEq, sM, h0, h1, h7, hg, hg1, c1', opCall, argsOf, hK, c2, hA, hl, c4, hN] at hr
          exact ⟨_, _, hf1, hr.symm, by simp only [V_U, Nat.reduceEqDiff, reduceIte, c2', c1', c4', decide_true, Bool.true_and]⟩
        · have c4' : decide (path.length ≤ 200) = false := by simp; omega
          simp only [B26_9, sC, reduceIte, Nat.reduceEqDiff, stepOp, undefA, opMov, opPick, opArith, arith, opStrop, strop, sO, sM, h1, h7, hg, c1', opCall, argsOf, hK, c2, hA, hl, c4] at hr
          exact ⟨_, _, hf1, hr.symm, by simp only [V_U, Nat.reduceEqDiff, reduceIte, c2', c1', c4', decide_true, Bool.true_and, Bool.false_and]⟩
    · have c2' : decide (0 < kindS n.name) = false := by simp; omega
      simp only [B26_9, sC, reduceIte, Nat.reduceEqDiff, stepOp, undefA, opMov, opPick, opArith, arith, opStrop, strop, sO, sM, h7, hg, c1', opCall, argsOf, hK, c2] at hr
      exact ⟨_, _, Fr.refl _, hr.symm, by simp only [V_U, Nat.reduceEqDiff, reduceIte, c2', c1', decide_true, Bool.true_and, Bool.false_and]⟩
  · simp only [B26_9, sC, reduceIte, Nat.reduceEqDiff, stepOp, undefA, opMov, opPick, opStrop, strop, sO, sM, h7, hg, c1] at hr
    exact ⟨_, _, Fr.refl _, hr.symm, by simp only [V_U, Nat.reduceEqDiff, reduceIte, c1, decide_false, Bool.false_and]⟩
end
end Go.Ab.Dirs
end
