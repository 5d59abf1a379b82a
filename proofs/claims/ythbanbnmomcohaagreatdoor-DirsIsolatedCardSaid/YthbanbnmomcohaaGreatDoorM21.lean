/- tree.nested. -/
import Derived.Test.YthbanbnmomcohaaGreatDoorM20
import Derived.Test.YthbanbnmomcohaaGreatDoorM17
set_option linter.all false
set_option linter.unusedSimpArgs false
set_option maxRecDepth 10000
noncomputable section
namespace Go.Ab.Dirs
open Go Go.Ab

/-- The name of a node. -/
def nmS (t : List ND) (p : Nat) : List Nat := match t[p]? with | some n => n.name | none => []
theorem nmS_at {t : List ND} {p : Nat} (h : p < t.length) : nmS t p = t[p].name := by
  unfold nmS; rw [List.getElem?_eq_getElem h]

/-- May an element of kind k not stand below one named w? -/
def badS (k : Nat) (w : List Nat) (free : Bool) : Bool :=
  (endsS k && decide (w = [112])) || (decide (k = 6) && decide (w = [97])) || (decide (k = 3) && decide (w = [108, 105]) && !free)
/-- Up a path, from a place on. -/
def nestG (t : List ND) (k : Nat) (path : List Nat) : Nat → Bool → Bool
  | 0, _ => true
  | i + 1, free => if badS k (nmS t (path.getD (i + 1) 0)) free then false else nestG t k path i (free || wallS (nmS t (path.getD (i + 1) 0)))
def nestedS (t : List ND) (path : List Nat) (name : List Nat) : Bool :=
  !(decide (kindS name = 4) && decide (kindS (nmS t (path.getD (path.length - 1) 0)) = 4)) && nestG t (kindS name) path (path.length - 1) false

set_option maxHeartbeats 4000000 in
theorem nested_loop (q : Bool) (tv pv : AVal) (t : List ND) (path : List Nat) (k : Nat) (hb : path.length < 9223372036854775808) (hp : ∀ p ∈ path, p < t.length) (σ : St) (ht : TreeI σ tv t) (hpv : IntsI σ pv (path.map Int.ofNat)) :
    ∀ (i : Nat) (free : Bool) (env : Env) (r : Option (Out × Env × St)), Ew TS q (.loop L44_1) env σ = r → i < path.length →
    V env 0 = tv → V env 1 = pv → V env 7 = .int .u8 (k : Int) → V env 8 = .bool free → V env 9 = .int .i64 (i : Int) →
    ∃ e, ((nestG t k path i free = true ∧ r = some (.exit 0, e, σ)) ∨ (nestG t k path i free = false ∧ r = some (.ret, e, σ) ∧ V e 6 = .bool false))
  | 0, free, env, r, hr, hi, h0, h1, h7, h8, h9 => by
    simp only [Int.natCast_zero] at h9
    have hlt : ¬ ((0 : Int) < 0) := by omega
    rw [Ew_loop] at hr
    simp only [L44_1, sA, reduceIte, Nat.reduceEqDiff, Int.reduceLT, Int.reduceLE, Int.reduceEq, Int.reduceNeg, reduceCtorEq, Nat.reduceAdd, h0, h1, h7, h8, h9, hlt] at hr
    exact ⟨_, .inl ⟨rfl, hr.symm⟩⟩
  | i + 1, free, env, r, hr, hi, h0, h1, h7, h8, h9 => by
    have hlt : (0 : Int) < ((i + 1 : Nat) : Int) := by omega
    have hw : wrapI .i64 (((i + 1 : Nat) : Int) - 1) = (i : Int) := by rw [wrap_i64 (by omega) (by omega)]; omega
    obtain ⟨g1, g2⟩ := hpv.get (i := i + 1) (by simpa using hi) (k := .i64)
    have hpm : path[i + 1] < t.length := hp _ (List.getElem_mem _)
    simp only [List.getElem_map, Int.ofNat_eq_natCast] at g2
    obtain ⟨av, kv, x1, x2⟩ := ht.get hpm
    have x1 := x1 .i64
    have hnm : nmS t (path.getD (i + 1) 0) = t[path[i + 1]].name := by
      rw [List.getD_eq_getElem?_getD, List.getElem?_eq_getElem hi, Option.getD_some, nmS_at hpm]
    have hE := ends_ok q k σ
    have hW := wall_ok q t[path[i + 1]].name σ
    have ih := fun fr e => nested_loop q tv pv t path k hb hp σ ht hpv i fr e r
    rw [nestG, hnm]
    have hn := x2.l1
    have f1 := x2.f1
    clear hnm x2
    generalize t[path[i + 1]].name = w at *
    rw [Ew_loop] at hr
    cases hEn : endsS k with
    | true =>
      rw [hEn] at hE
      have k6 : ¬ k = 6 := by intro e; subst e; simp [endsS] at hEn
      have k6' : ¬ (k : Int) = 6 := by omega
      by_cases wp : w = [112]
      · have wp' := eq_true wp
        have hbd : badS k w free = true := by simp [badS, hEn, wp]
        rw [hbd, if_pos rfl]
        simp only [L44_1, sA, reduceIte, Nat.reduceEqDiff, Int.reduceLT, Int.reduceLE, Int.reduceEq, Int.reduceNeg, reduceCtorEq, Nat.reduceAdd, sM, h0, h1, h7, h8, h9, hlt, g1, g2, x1, f1, hn, opCall, argsOf, hE, hw, wp'] at hr
        exact ⟨_, .inr ⟨rfl, hr.symm, by simp only [sV, Nat.reduceEqDiff, reduceIte, Nat.reduceAdd]⟩⟩
      · by_cases k3 : k = 3
        · have k3' := eq_true (show (k : Int) = 3 by omega)
          by_cases wl : w = [108, 105]
          · have wl' := eq_true wl
            cases hfr : free with
            | false =>
              subst hfr
              have hbd : badS k w false = true := by simp [badS, hEn, k3, wl]
              rw [hbd, if_pos rfl]
              simp only [L44_1, sA, reduceIte, Nat.reduceEqDiff, Int.reduceLT, Int.reduceLE, Int.reduceEq, Int.reduceNeg, reduceCtorEq, Nat.reduceAdd, sM, h0, h1, h7, h8, h9, hlt, g1, g2, x1, f1, hn, opCall, argsOf, hE, hw, wp, k6', k3', wl'] at hr
              exact ⟨_, .inr ⟨rfl, hr.symm, by simp only [sV, Nat.reduceEqDiff, reduceIte, Nat.reduceAdd]⟩⟩
            | true =>
              subst hfr
              have hbd : badS k w true = false := by simp [badS, wp, k6]
              rw [hbd, if_neg (by decide)]
              simp only [L44_1, sA, reduceIte, Nat.reduceEqDiff, Int.reduceLT, Int.reduceLE, Int.reduceEq, Int.reduceNeg, reduceCtorEq, Nat.reduceAdd, sM, h0, h1, h7, h8, h9, hlt, g1, g2, x1, f1, hn, opCall, argsOf, hE, hw, wp, k6', k3', wl'] at hr
              exact ih true _ hr (by omega) (by simp only [sV, Nat.reduceEqDiff, reduceIte, Nat.reduceAdd, h0]) (by simp only [sV, Nat.reduceEqDiff, reduceIte, Nat.reduceAdd, h1]) (by simp only [sV, Nat.reduceEqDiff, reduceIte, Nat.reduceAdd, h7]) (by simp only [sV, Nat.reduceEqDiff, reduceIte, Nat.reduceAdd]) (by simp only [sV, Nat.reduceEqDiff, reduceIte, Nat.reduceAdd])
          · have hbd : badS k w free = false := by simp [badS, wp, k6, wl]
            rw [hbd, if_neg (by decide)]
            cases free with
            | true =>
              simp only [L44_1, sA, reduceIte, Nat.reduceEqDiff, Int.reduceLT, Int.reduceLE, Int.reduceEq, Int.reduceNeg, reduceCtorEq, Nat.reduceAdd, sM, h0, h1, h7, h8, h9, hlt, g1, g2, x1, f1, hn, opCall, argsOf, hE, hw, wp, k6', k3', wl] at hr
              exact ih true _ hr (by omega) (by simp only [sV, Nat.reduceEqDiff, reduceIte, Nat.reduceAdd, h0]) (by simp only [sV, Nat.reduceEqDiff, reduceIte, Nat.reduceAdd, h1]) (by simp only [sV, Nat.reduceEqDiff, reduceIte, Nat.reduceAdd, h7]) (by simp only [sV, Nat.reduceEqDiff, reduceIte, Nat.reduceAdd]) (by simp only [sV, Nat.reduceEqDiff, reduceIte, Nat.reduceAdd])
            | false =>
              simp only [L44_1, sA, reduceIte, Nat.reduceEqDiff, Int.reduceLT, Int.reduceLE, Int.reduceEq, Int.reduceNeg, reduceCtorEq, Nat.reduceAdd, sM, h0, h1, h7, h8, h9, hlt, g1, g2, x1, f1, hn, opCall, argsOf, hE, hw, wp, k6', k3', wl, hW] at hr
              exact ih (wallS w) _ hr (by omega) (by simp only [sV, Nat.reduceEqDiff, reduceIte, Nat.reduceAdd, h0]) (by simp only [sV, Nat.reduceEqDiff, reduceIte, Nat.reduceAdd, h1]) (by simp only [sV, Nat.reduceEqDiff, reduceIte, Nat.reduceAdd, h7]) (by simp only [sV, Nat.reduceEqDiff, reduceIte, Nat.reduceAdd]) (by simp only [sV, Nat.reduceEqDiff, reduceIte, Nat.reduceAdd])
        · have k3' : ¬ (k : Int) = 3 := by omega
          have hbd : badS k w free = false := by simp [badS, wp, k6, k3]
          rw [hbd, if_neg (by decide)]
          cases free with
          | true =>
            simp only [L44_1, sA, reduceIte, Nat.reduceEqDiff, Int.reduceLT, Int.reduceLE, Int.reduceEq, Int.reduceNeg, reduceCtorEq, Nat.reduceAdd, sM, h0, h1, h7, h8, h9, hlt, g1, g2, x1, f1, hn, opCall, argsOf, hE, hw, wp, k6', k3'] at hr
            exact ih true _ hr (by omega) (by simp only [sV, Nat.reduceEqDiff, reduceIte, Nat.reduceAdd, h0]) (by simp only [sV, Nat.reduceEqDiff, reduceIte, Nat.reduceAdd, h1]) (by simp only [sV, Nat.reduceEqDiff, reduceIte, Nat.reduceAdd, h7]) (by simp only [sV, Nat.reduceEqDiff, reduceIte, Nat.reduceAdd]) (by simp only [sV, Nat.reduceEqDiff, reduceIte, Nat.reduceAdd])
          | false =>
            simp only [L44_1, sA, reduceIte, Nat.reduceEqDiff, Int.reduceLT, Int.reduceLE, Int.reduceEq, Int.reduceNeg, reduceCtorEq, Nat.reduceAdd, sM, h0, h1, h7, h8, h9, hlt, g1, g2, x1, f1, hn, opCall, argsOf, hE, hw, wp, k6', k3', hW] at hr
            exact ih (wallS w) _ hr (by omega) (by simp only [sV, Nat.reduceEqDiff, reduceIte, Nat.reduceAdd, h0]) (by simp only [sV, Nat.reduceEqDiff, reduceIte, Nat.reduceAdd, h1]) (by simp only [sV, Nat.reduceEqDiff, reduceIte, Nat.reduceAdd, h7]) (by simp only [sV, Nat.reduceEqDiff, reduceIte, Nat.reduceAdd]) (by simp only [sV, Nat.reduceEqDiff, reduceIte, Nat.reduceAdd])
    | false =>
      rw [hEn] at hE
      have k3 : ¬ k = 3 := by intro e; subst e; simp [endsS] at hEn
      have k3' : ¬ (k : Int) = 3 := by omega
      by_cases k6 : k = 6
      · have k6' := eq_true (show (k : Int) = 6 by omega)
        have k63 : ¬ (6 : Int) = 3 := by omega
        by_cases wa : w = [97]
        · have wa' := eq_true wa
          have hbd : badS k w free = true := by simp [badS, k6, wa]
          rw [hbd, if_pos rfl]
          simp only [L44_1, sA, reduceIte, Nat.reduceEqDiff, Int.reduceLT, Int.reduceLE, Int.reduceEq, Int.reduceNeg, reduceCtorEq, Nat.reduceAdd, sM, h0, h1, h7, h8, h9, hlt, g1, g2, x1, f1, hn, opCall, argsOf, hE, hw, k6', wa'] at hr
          exact ⟨_, .inr ⟨rfl, hr.symm, by simp only [sV, Nat.reduceEqDiff, reduceIte, Nat.reduceAdd]⟩⟩
        · have hbd : badS k w free = false := by simp [badS, hEn, wa, k3]
          rw [hbd, if_neg (by decide)]
          cases free with
          | true =>
            simp only [L44_1, sA, reduceIte, Nat.reduceEqDiff, Int.reduceLT, Int.reduceLE, Int.reduceEq, Int.reduceNeg, reduceCtorEq, Nat.reduceAdd, sM, h0, h1, h7, h8, h9, hlt, g1, g2, x1, f1, hn, opCall, argsOf, hE, hw, k6', k3', wa] at hr
            exact ih true _ hr (by omega) (by simp only [sV, Nat.reduceEqDiff, reduceIte, Nat.reduceAdd, h0]) (by simp only [sV, Nat.reduceEqDiff, reduceIte, Nat.reduceAdd, h1]) (by simp only [sV, Nat.reduceEqDiff, reduceIte, Nat.reduceAdd, h7]) (by simp only [sV, Nat.reduceEqDiff, reduceIte, Nat.reduceAdd]) (by simp only [sV, Nat.reduceEqDiff, reduceIte, Nat.reduceAdd])
          | false =>
            simp only [L44_1, sA, reduceIte, Nat.reduceEqDiff, Int.reduceLT, Int.reduceLE, Int.reduceEq, Int.reduceNeg, reduceCtorEq, Nat.reduceAdd, sM, h0, h1, h7, h8, h9, hlt, g1, g2, x1, f1, hn, opCall, argsOf, hE, hw, k6', k3', wa, hW] at hr
            exact ih (wallS w) _ hr (by omega) (by simp only [sV, Nat.reduceEqDiff, reduceIte, Nat.reduceAdd, h0]) (by simp only [sV, Nat.reduceEqDiff, reduceIte, Nat.reduceAdd, h1]) (by simp only [sV, Nat.reduceEqDiff, reduceIte, Nat.reduceAdd, h7]) (by simp only [sV, Nat.reduceEqDiff, reduceIte, Nat.reduceAdd]) (by simp only [sV, Nat.reduceEqDiff, reduceIte, Nat.reduceAdd])
      · have k6' : ¬ (k : Int) = 6 := by omega
        have hbd : badS k w free = false := by simp [badS, hEn, k6, k3]
        rw [hbd, if_neg (by decide)]
        cases free with
        | true =>
          simp only [L44_1, sA, reduceIte, Nat.reduceEqDiff, Int.reduceLT, Int.reduceLE, Int.reduceEq, Int.reduceNeg, reduceCtorEq, Nat.reduceAdd, sM, h0, h1, h7, h8, h9, hlt, g1, g2, x1, f1, hn, opCall, argsOf, hE, hw, k6', k3'] at hr
          exact ih true _ hr (by omega) (by simp only [sV, Nat.reduceEqDiff, reduceIte, Nat.reduceAdd, h0]) (by simp only [sV, Nat.reduceEqDiff, reduceIte, Nat.reduceAdd, h1]) (by simp only [sV, Nat.reduceEqDiff, reduceIte, Nat.reduceAdd, h7]) (by simp only [sV, Nat.reduceEqDiff, reduceIte, Nat.reduceAdd]) (by simp only [sV, Nat.reduceEqDiff, reduceIte, Nat.reduceAdd])
        | false =>
          simp only [L44_1, sA, reduceIte, Nat.reduceEqDiff, Int.reduceLT, Int.reduceLE, Int.reduceEq, Int.reduceNeg, reduceCtorEq, Nat.reduceAdd, sM, h0, h1, h7, h8, h9, hlt, g1, g2, x1, f1, hn, opCall, argsOf, hE, hw, k6', k3', hW] at hr
          exact ih (wallS w) _ hr (by omega) (by simp only [sV, Nat.reduceEqDiff, reduceIte, Nat.reduceAdd, h0]) (by simp only [sV, Nat.reduceEqDiff, reduceIte, Nat.reduceAdd, h1]) (by simp only [sV, Nat.reduceEqDiff, reduceIte, Nat.reduceAdd, h7]) (by simp only [sV, Nat.reduceEqDiff, reduceIte, Nat.reduceAdd]) (by simp only [sV, Nat.reduceEqDiff, reduceIte, Nat.reduceAdd])

theorem nested_ok (q : Bool) (tv pv : AVal) (t : List ND) (path : List Nat) (name : List Nat) (hb : path.length < 9223372036854775808) (hpos : 0 < path.length) (hp : ∀ p ∈ path, p < t.length) (σ : St) (ht : TreeI σ tv t) (hpv : IntsI σ pv (path.map Int.ofNat)) :
    Cw TS q 44 [tv, pv, .str name] σ = some (.bool (nestedS t path name), σ) := by
  have hl := SlI.len hpv
  rw [List.length_map] at hl
  have hK := Kind_ok q name σ
  have hw : wrapI .i64 ((path.length : Int) - 1) = ((path.length - 1 : Nat) : Int) := by rw [wrap_i64 (by omega) (by omega)]; omega
  have hi : path.length - 1 < path.length := by omega
  obtain ⟨g1, g2⟩ := hpv.get (i := path.length - 1) (by simpa using hi) (k := .i64)
  have hpm : path[path.length - 1] < t.length := hp _ (List.getElem_mem _)
  simp only [List.getElem_map, Int.ofNat_eq_natCast] at g2
  obtain ⟨av, kv, x1, x2⟩ := ht.get hpm
  have x1 := x1 .i64
  have hnm : nmS t (path.getD (path.length - 1) 0) = t[path[path.length - 1]].name := by
    rw [List.getD_eq_getElem?_getD, List.getElem?_eq_getElem hi, Option.getD_some, nmS_at hpm]
  have hK2 := Kind_ok q t[path[path.length - 1]].name σ
  have lp := fun e => nested_loop q tv pv t path (kindS name) hb hp σ ht hpv (path.length - 1) false e
  have fin1 : ∀ r, (∃ e, ((nestG t (kindS name) path (path.length - 1) false = true ∧ r = some (Out.exit 0, e, σ)) ∨ (nestG t (kindS name) path (path.length - 1) false = false ∧ r = some (Out.ret, e, σ) ∧ V e 6 = .bool false))) → True := fun _ _ => trivial
  rw [Cw_of fn44 q _ σ rfl]
  by_cases c1 : kindS name = 4
  · have c1' := eq_true (show (kindS name : Int) = 4 by omega)
    by_cases c2 : kindS t[path[path.length - 1]].name = 4
    · have c2' := eq_true (show (kindS t[path[path.length - 1]].name : Int) = 4 by omega)
      have hs : nestedS t path name = false := by unfold nestedS; rw [hnm]; simp [c1, c2]
      simp only [c44, sA, reduceIte, Nat.reduceEqDiff, Int.reduceLT, Int.reduceLE, Int.reduceEq, Int.reduceNeg, reduceCtorEq, Nat.reduceAdd, opIaSl_s, opFieldAddr_s, opLoad_s, opCall, argsOf, hl, hw, hK, g1, g2, x1, x2.f1, x2.l1, hK2, c1', c2', hs]
    · have c2' : ¬ (kindS t[path[path.length - 1]].name : Int) = 4 := by omega
      have hs : nestedS t path name = nestG t (kindS name) path (path.length - 1) false := by unfold nestedS; rw [hnm]; simp [c1, c2]
      simp only [c44, sA, reduceIte, Nat.reduceEqDiff, Int.reduceLT, Int.reduceLE, Int.reduceEq, Int.reduceNeg, reduceCtorEq, Nat.reduceAdd, opIaSl_s, opFieldAddr_s, opLoad_s, opCall, argsOf, hl, hw, hK, g1, g2, x1, x2.f1, x2.l1, hK2, c1', c2', hs]
      generalize hr : Ew TS q (.loop L44_1) _ _ = r
      obtain ⟨e, ⟨a, rfl⟩ | ⟨a, rfl, b⟩⟩ := lp _ r hr hi (by simp only [sV, Nat.reduceEqDiff, reduceIte, Nat.reduceAdd]) (by simp only [sV, Nat.reduceEqDiff, reduceIte, Nat.reduceAdd]) (by simp only [sV, Nat.reduceEqDiff, reduceIte, Nat.reduceAdd]) (by simp only [sV, Nat.reduceEqDiff, reduceIte, Nat.reduceAdd]) (by simp only [sV, Nat.reduceEqDiff, reduceIte, Nat.reduceAdd])
      · simp only [sA, reduceIte, Nat.reduceEqDiff, Int.reduceLT, Int.reduceLE, Int.reduceEq, Int.reduceNeg, reduceCtorEq, Nat.reduceAdd, a]
      · simp only [sA, reduceIte, Nat.reduceEqDiff, Int.reduceLT, Int.reduceLE, Int.reduceEq, Int.reduceNeg, reduceCtorEq, Nat.reduceAdd, a, b]
  · have c1' : ¬ (kindS name : Int) = 4 := by omega
    have hs : nestedS t path name = nestG t (kindS name) path (path.length - 1) false := by unfold nestedS; rw [hnm]; simp [c1]
    simp only [c44, sA, reduceIte, Nat.reduceEqDiff, Int.reduceLT, Int.reduceLE, Int.reduceEq, Int.reduceNeg, reduceCtorEq, Nat.reduceAdd, opIaSl_s, opFieldAddr_s, opLoad_s, opCall, argsOf, hl, hw, hK, g1, g2, x1, x2.f1, x2.l1, hK2, c1', hs]
    generalize hr : Ew TS q (.loop L44_1) _ _ = r
    obtain ⟨e, ⟨a, rfl⟩ | ⟨a, rfl, b⟩⟩ := lp _ r hr hi (by simp only [sV, Nat.reduceEqDiff, reduceIte, Nat.reduceAdd]) (by simp only [sV, Nat.reduceEqDiff, reduceIte, Nat.reduceAdd]) (by simp only [sV, Nat.reduceEqDiff, reduceIte, Nat.reduceAdd]) (by simp only [sV, Nat.reduceEqDiff, reduceIte, Nat.reduceAdd]) (by simp only [sV, Nat.reduceEqDiff, reduceIte, Nat.reduceAdd])
    · simp only [sA, reduceIte, Nat.reduceEqDiff, Int.reduceLT, Int.reduceLE, Int.reduceEq, Int.reduceNeg, reduceCtorEq, Nat.reduceAdd, a]
    · simp only [sA, reduceIte, Nat.reduceEqDiff, Int.reduceLT, Int.reduceLE, Int.reduceEq, Int.reduceNeg, reduceCtorEq, Nat.reduceAdd, a, b]
end Go.Ab.Dirs
end

set_option maxRecDepth 10000
noncomputable section
namespace Go.Ab.Dirs
open Go Go.Ab

/-- The strings and rows of a tree are a program's. -/
structure NWF (n : ND) : Prop where
  name : SWF n.name
  data : SWF n.data
  attrs : ∀ a ∈ n.attrs, SWF a.1 ∧ SWF a.2
  alen : n.attrs.length < 9223372036854775808
  klen : n.kids.length < 9223372036854775808

def plainS (n : ND) : Bool := decide (n.name = []) && decide (n.attrs.length = 0)
def kdS (t : List ND) (z : Int) : Nat := match t[z.toNat]? with | some n => n.kind | none => 0
def upOf (t : List ND) (path : List Nat) : ND := t.getD (path.getD (path.length - 1) 0) ⟨0, [], [], [], 0, []⟩
def upBad (u : ND) : Bool := decide (u.kind = 2) || (decide (u.kind = 1) && decide (7 ≤ kindS u.name))
def prevS (t : List ND) (u : ND) (i : Nat) : Bool := decide (idxS (i : Int) u.kids 0 < 1) || decide (kdS t (u.kids.getD (idxS (i : Int) u.kids 0 - 1).toNat 0) ≠ 2)
/-- May a node stand below a path? -/
def fitsS (t : List ND) (path : List Nat) (i : Nat) (n : ND) : Bool :=
  if i = 0 then plainS n && decide (n.data = []) else
  if upBad (upOf t path) then false else
  if n.kind = 2 then plainS n && (decide (n.data ≠ []) && (wellS n.data && prevS t (upOf t path) i)) else
  if n.kind = 1 then decide (n.data = []) && (decide (0 < kindS n.name) && (attrsS n.attrs && (decide (path.length ≤ 200) && nestedS t path n.name))) else false

/-- A node's copy in a block. -/
def Copy (σ : St) (b : Nat) (n : ND) (av kv : AVal) : Prop :=
  (∃ f e, σ.get b = some (.cells f e [.int .u8 (n.kind : Int), .str n.name, av, .str n.data, .int .i64 n.up, kv])) ∧ b < σ.next ∧ AttrsI σ av n.attrs ∧ IntsI σ kv n.kids
theorem Copy.fr {σ σ' : St} {b : Nat} {n : ND} {av kv : AVal} (h : Copy σ b n av kv) (hf : Fr σ σ') : Copy σ' b n av kv := by
  obtain ⟨⟨f, e, h1⟩, h2, h3, h4⟩ := h
  exact ⟨⟨f, e, by rw [hf.get _ h2]; exact h1⟩, Nat.lt_of_lt_of_le h2 hf.next, h3.fr hf, h4.fr hf⟩

section
variable {σ : St} {e : Env} {r : Option (Out × Env × St)} {n : ND} {av kv : AVal} {b : Nat}

theorem fits_2 (hr : Ew TS false B26_2 e σ = r) (hc : Copy σ b n av kv) (h7 : V e 7 = .ptr b 0) : ∃ e', r = some (.normal, e', σ) ∧ V e' 8 = .bool (plainS n) ∧ V e' 0 = V e 0 ∧ V e' 1 = V e 1 ∧ V e' 2 = V e 2 ∧ V e' 7 = V e 7 := by
  obtain ⟨⟨f, t, hg⟩, hlt, ha, hk⟩ := hc
  have hl := SlI.len ha
  by_cases h1 : n.name = []
  · have h1' := eq_true h1
    by_cases h2 : (n.attrs.length : Int) = 0
    · have hp : plainS n = true := by simp [plainS, h1]; exact List.eq_nil_of_length_eq_zero (by omega)
      have h2' := eq_true h2
      simp only [B26_2, sA, reduceIte, Nat.reduceEqDiff, Int.reduceLT, Int.reduceLE, Int.reduceEq, Int.reduceNeg, reduceCtorEq, Nat.reduceAdd, sM, h7, hg, h1', hl, h2'] at hr
      exact ⟨_, hr.symm, by simp only [sV, Nat.reduceEqDiff, reduceIte, Nat.reduceAdd, hp], by simp only [sV, Nat.reduceEqDiff, reduceIte, Nat.reduceAdd], by simp only [sV, Nat.reduceEqDiff, reduceIte, Nat.reduceAdd], by simp only [sV, Nat.reduceEqDiff, reduceIte, Nat.reduceAdd], by simp only [sV, Nat.reduceEqDiff, reduceIte, Nat.reduceAdd]⟩
    · have hp : plainS n = false := by simp [plainS]; intro _ h; apply h2; rw [h]; rfl
      simp only [B26_2, sA, reduceIte, Nat.reduceEqDiff, Int.reduceLT, Int.reduceLE, Int.reduceEq, Int.reduceNeg, reduceCtorEq, Nat.reduceAdd, sM, h7, hg, h1', hl, h2] at hr
      exact ⟨_, hr.symm, by simp only [sV, Nat.reduceEqDiff, reduceIte, Nat.reduceAdd, hp], by simp only [sV, Nat.reduceEqDiff, reduceIte, Nat.reduceAdd], by simp only [sV, Nat.reduceEqDiff, reduceIte, Nat.reduceAdd], by simp only [sV, Nat.reduceEqDiff, reduceIte, Nat.reduceAdd], by simp only [sV, Nat.reduceEqDiff, reduceIte, Nat.reduceAdd]⟩
  · have hp : plainS n = false := by simp [plainS, h1]
    simp only [B26_2, sA, reduceIte, Nat.reduceEqDiff, Int.reduceLT, Int.reduceLE, Int.reduceEq, Int.reduceNeg, reduceCtorEq, Nat.reduceAdd, sM, h7, hg, h1] at hr
    exact ⟨_, hr.symm, by simp only [sV, Nat.reduceEqDiff, reduceIte, Nat.reduceAdd, hp], by simp only [sV, Nat.reduceEqDiff, reduceIte, Nat.reduceAdd], by simp only [sV, Nat.reduceEqDiff, reduceIte, Nat.reduceAdd], by simp only [sV, Nat.reduceEqDiff, reduceIte, Nat.reduceAdd], by simp only [sV, Nat.reduceEqDiff, reduceIte, Nat.reduceAdd]⟩

theorem fits_6 (hr : Ew TS false B26_6 e σ = r) (hc : Copy σ b n av kv) (h9 : V e 9 = .ptr b 0) : ∃ e', r = some (.normal, e', σ) ∧ V e' 54 = .bool (upBad n) ∧ V e' 0 = V e 0 ∧ V e' 1 = V e 1 ∧ V e' 2 = V e 2 ∧ V e' 7 = V e 7 ∧ V e' 8 = V e 8 ∧ V e' 9 = V e 9 := by
  obtain ⟨⟨f, t, hg⟩, hlt, ha, hk⟩ := hc
  have hK := Kind_ok false n.name σ
  by_cases h1 : (n.kind : Int) = 2
  · have hp : upBad n = true := by simp [upBad]; left; omega
    have h1' := eq_true h1
    simp only [B26_6, sA, reduceIte, Nat.reduceEqDiff, Int.reduceLT, Int.reduceLE, Int.reduceEq, Int.reduceNeg, reduceCtorEq, Nat.reduceAdd, sM, h9, hg, h1'] at hr
    exact ⟨_, hr.symm, by simp only [sV, Nat.reduceEqDiff, reduceIte, Nat.reduceAdd, hp], by simp only [sV, Nat.reduceEqDiff, reduceIte, Nat.reduceAdd], by simp only [sV, Nat.reduceEqDiff, reduceIte, Nat.reduceAdd], by simp only [sV, Nat.reduceEqDiff, reduceIte, Nat.reduceAdd], by simp only [sV, Nat.reduceEqDiff, reduceIte, Nat.reduceAdd], by simp only [sV, Nat.reduceEqDiff, reduceIte, Nat.reduceAdd], by simp only [sV, Nat.reduceEqDiff, reduceIte, Nat.reduceAdd]⟩
  · by_cases h2 : (n.kind : Int) = 1
    · have h2' := eq_true h2
      by_cases h3 : (7 : Int) ≤ (kindS n.name : Int)
      · have hp : upBad n = true := by simp [upBad]; right; omega
        simp only [B26_6, sA, reduceIte, Nat.reduceEqDiff, Int.reduceLT, Int.reduceLE, Int.reduceEq, Int.reduceNeg, reduceCtorEq, Nat.reduceAdd, sM, h9, hg, h1, h2', opCall, argsOf, hK, h3] at hr
        exact ⟨_, hr.symm, by simp only [sV, Nat.reduceEqDiff, reduceIte, Nat.reduceAdd, hp], by simp only [sV, Nat.reduceEqDiff, reduceIte, Nat.reduceAdd], by simp only [sV, Nat.reduceEqDiff, reduceIte, Nat.reduceAdd], by simp only [sV, Nat.reduceEqDiff, reduceIte, Nat.reduceAdd], by simp only [sV, Nat.reduceEqDiff, reduceIte, Nat.reduceAdd], by simp only [sV, Nat.reduceEqDiff, reduceIte, Nat.reduceAdd], by simp only [sV, Nat.reduceEqDiff, reduceIte, Nat.reduceAdd]⟩
      · have hp : upBad n = false := by simp [upBad]; omega
        simp only [B26_6, sA, reduceIte, Nat.reduceEqDiff, Int.reduceLT, Int.reduceLE, Int.reduceEq, Int.reduceNeg, reduceCtorEq, Nat.reduceAdd, sM, h9, hg, h1, h2', opCall, argsOf, hK, h3] at hr
        exact ⟨_, hr.symm, by simp only [sV, Nat.reduceEqDiff, reduceIte, Nat.reduceAdd, hp], by simp only [sV, Nat.reduceEqDiff, reduceIte, Nat.reduceAdd], by simp only [sV, Nat.reduceEqDiff, reduceIte, Nat.reduceAdd], by simp only [sV, Nat.reduceEqDiff, reduceIte, Nat.reduceAdd], by simp only [sV, Nat.reduceEqDiff, reduceIte, Nat.reduceAdd], by simp only [sV, Nat.reduceEqDiff, reduceIte, Nat.reduceAdd], by simp only [sV, Nat.reduceEqDiff, reduceIte, Nat.reduceAdd]⟩
    · have hp : upBad n = false := by simp [upBad]; omega
      simp only [B26_6, sA, reduceIte, Nat.reduceEqDiff, Int.reduceLT, Int.reduceLE, Int.reduceEq, Int.reduceNeg, reduceCtorEq, Nat.reduceAdd, sM, h9, hg, h1, h2] at hr
      exact ⟨_, hr.symm, by simp only [sV, Nat.reduceEqDiff, reduceIte, Nat.reduceAdd, hp], by simp only [sV, Nat.reduceEqDiff, reduceIte, Nat.reduceAdd], by simp only [sV, Nat.reduceEqDiff, reduceIte, Nat.reduceAdd], by simp only [sV, Nat.reduceEqDiff, reduceIte, Nat.reduceAdd], by simp only [sV, Nat.reduceEqDiff, reduceIte, Nat.reduceAdd], by simp only [sV, Nat.reduceEqDiff, reduceIte, Nat.reduceAdd], by simp only [sV, Nat.reduceEqDiff, reduceIte, Nat.reduceAdd]⟩

/-- A text. -/
theorem fits_8 {tv : AVal} {t : List ND} {b2 i : Nat} {n2 : ND} {av2 kv2 : AVal} (hr : Ew TS false B26_8 e σ = r) (hwf : NWF n) (hc : Copy σ b n av kv) (hc2 : Copy σ b2 n2 av2 kv2) (ht : TreeI σ tv t) (hk2 : n2.kids.length < 9223372036854775808)
    (hv : ∀ j : Nat, idxS (i : Int) n2.kids 0 = ((j + 1 : Nat) : Int) → ∃ z : Nat, ∃ (h : j < n2.kids.length), n2.kids[j] = (z : Int) ∧ z < t.length)
    (hidx : idxS (i : Int) n2.kids 0 < 1 ∨ ∃ j : Nat, idxS (i : Int) n2.kids 0 = ((j + 1 : Nat) : Int))
    (h0 : V e 0 = tv) (h7 : V e 7 = .ptr b 0) (h8 : V e 8 = .bool (plainS n)) (h9 : V e 9 = .ptr b2 0) (h10 : V e 10 = .int .i64 (idxS (i : Int) n2.kids 0)) :
    ∃ e' σ', Fr σ σ' ∧ r = some (.normal, e', σ') ∧ V e' 6 = .bool (plainS n && (decide (n.data ≠ []) && (wellS n.data && prevS t n2 i))) := by
  cases hp : plainS n with
  | false =>
    rw [hp] at h8
    simp only [B26_8, sA, reduceIte, Nat.reduceEqDiff, Int.reduceLT, Int.reduceLE, Int.reduceEq, Int.reduceNeg, reduceCtorEq, Nat.reduceAdd, h8] at hr
    exact ⟨_, _, Fr.refl _, hr.symm, by simp only [sV, Nat.reduceEqDiff, reduceIte, Nat.reduceAdd, Bool.false_and]⟩
  | true =>
    rw [hp] at h8
    obtain ⟨⟨f, ty, hg⟩, hlt, ha, hk⟩ := hc
    by_cases hd : n.data = []
    · have hd' := eq_true hd
      have hx : decide (n.data ≠ []) = false := by simp [hd]
      simp only [B26_8, sA, reduceIte, Nat.reduceEqDiff, Int.reduceLT, Int.reduceLE, Int.reduceEq, Int.reduceNeg, reduceCtorEq, Nat.reduceAdd, sM, h7, h8, hg, hd'] at hr
      exact ⟨_, _, Fr.refl _, hr.symm, by simp only [sV, Nat.reduceEqDiff, reduceIte, Nat.reduceAdd, hx, Bool.false_and, Bool.true_and]⟩
    · obtain ⟨σ1, hf1, hW⟩ := well_ok n.data σ hwf.data.1 hwf.data.2
      have hx : decide (n.data ≠ []) = true := by simp [hd]
      cases hw : wellS n.data with
      | false =>
        rw [hw] at hW
        simp only [B26_8, sA, reduceIte, Nat.reduceEqDiff, Int.reduceLT, Int.reduceLE, Int.reduceEq, Int.reduceNeg, reduceCtorEq, Nat.reduceAdd, sM, h7, h8, hg, hd, opCall, argsOf, hW] at hr
        exact ⟨_, _, hf1, hr.symm, by simp only [sV, Nat.reduceEqDiff, reduceIte, Nat.reduceAdd, hx, Bool.false_and, Bool.true_and]⟩
      | true =>
        rw [hw] at hW
        by_cases h1 : idxS (i : Int) n2.kids 0 < 1
        · have hq : prevS t n2 i = true := by simp [prevS, h1]
          simp only [B26_8, sA, reduceIte, Nat.reduceEqDiff, Int.reduceLT, Int.reduceLE, Int.reduceEq, Int.reduceNeg, reduceCtorEq, Nat.reduceAdd, sM, h7, h8, h10, hg, hd, opCall, argsOf, hW, h1] at hr
          exact ⟨_, _, hf1, hr.symm, by simp only [sV, Nat.reduceEqDiff, reduceIte, Nat.reduceAdd, hx, hq, Bool.true_and]⟩
        · obtain ⟨j, hj⟩ := hidx.resolve_left h1
          obtain ⟨z, hjl, hz, hzt⟩ := hv j hj
          obtain ⟨⟨f2, ty2, hg2⟩, hlt2, ha2, hkk2⟩ := hc2.fr hf1
          obtain ⟨g1, g2⟩ := hkk2.get hjl (k := .i64)
          rw [hz] at g2
          obtain ⟨av3, kv3, x1, x2⟩ := (ht.fr hf1).get hzt
          have x1 := x1 .i64
          have l0 := x2.l0
          have f0 := x2.f0
          have hwr : wrapI .i64 (((j + 1 : Nat) : Int) - 1) = (j : Int) := by rw [wrap_i64 (by omega) (by omega)]; omega
          have h1' : ¬ ((j + 1 : Nat) : Int) < 1 := by omega
          rw [hj] at h10
          have hkd : kdS t (n2.kids.getD (idxS (i : Int) n2.kids 0 - 1).toNat 0) = t[z].kind := by
            rw [hj]
            have : (((j + 1 : Nat) : Int) - 1).toNat = j := by omega
            rw [this, List.getD_eq_getElem?_getD, List.getElem?_eq_getElem hjl, Option.getD_some, hz]
            simp [kdS, hzt]
          by_cases h2 : (t[z].kind : Int) = 2
          · have hq : prevS t n2 i = false := by simp only [prevS, h1, hkd, decide_false, Bool.false_or, decide_eq_false_iff_not]; omega
            have h2' := eq_true h2
            simp only [B26_8, sA, reduceIte, Nat.reduceEqDiff, Int.reduceLT, Int.reduceLE, Int.reduceEq, Int.reduceNeg, reduceCtorEq, Nat.reduceAdd, sM, h0, h7, h8, h9, h10, hg, hg2, hd, opCall, argsOf, hW, h1', hwr, g1, g2, x1, f0, l0, h2'] at hr
            exact ⟨_, _, hf1, hr.symm, by simp only [sV, Nat.reduceEqDiff, reduceIte, Nat.reduceAdd, hx, hq, Bool.true_and]⟩
          · have hq : prevS t n2 i = true := by simp only [prevS, h1, hkd, decide_false, Bool.false_or, decide_eq_true_iff]; omega
            simp only [B26_8, sA, reduceIte, Nat.reduceEqDiff, Int.reduceLT, Int.reduceLE, Int.reduceEq, Int.reduceNeg, reduceCtorEq, Nat.reduceAdd, sM, h0, h7, h8, h9, h10, hg, hg2, hd, opCall, argsOf, hW, h1', hwr, g1, g2, x1, f0, l0, h2] at hr
            exact ⟨_, _, hf1, hr.symm, by simp only [sV, Nat.reduceEqDiff, reduceIte, Nat.reduceAdd, hx, hq, Bool.true_and]⟩

/-- An element. -/
theorem fits_9 {tv pv : AVal} {t : List ND} {path : List Nat} (hr : Ew TS false B26_9 e σ = r) (hwf : NWF n) (hc : Copy σ b n av kv) (ht : TreeI σ tv t) (hb : path.length < 9223372036854775808) (hpos : 0 < path.length) (hp : ∀ p ∈ path, p < t.length) (hpv : IntsI σ pv (path.map Int.ofNat))
    (h0 : V e 0 = tv) (h1 : V e 1 = pv) (h7 : V e 7 = .ptr b 0) :
    ∃ e' σ', Fr σ σ' ∧ r = some (.normal, e', σ') ∧ V e' 6 = .bool (decide (n.data = []) && (decide (0 < kindS n.name) && (attrsS n.attrs && (decide (path.length ≤ 200) && nestedS t path n.name)))) := by
  obtain ⟨⟨f, ty, hg⟩, hlt, ha, hk⟩ := hc
  have hK := Kind_ok false n.name σ
  by_cases c1 : n.data = []
  · have c1' := eq_true c1
    by_cases c2 : (0 : Int) < (kindS n.name : Int)
    · have c2' : decide (0 < kindS n.name) = true := by simp; omega
      obtain ⟨σ1, hf1, hA⟩ := attrs_ok av n.attrs σ hwf.alen hwf.attrs ha
      cases c3 : attrsS n.attrs with
      | false =>
        rw [c3] at hA
        simp only [B26_9, sA, reduceIte, Nat.reduceEqDiff, Int.reduceLT, Int.reduceLE, Int.reduceEq, Int.reduceNeg, reduceCtorEq, Nat.reduceAdd, sM, h7, hg, c1', opCall, argsOf, hK, c2, hA] at hr
        exact ⟨_, _, hf1, hr.symm, by simp only [sV, Nat.reduceEqDiff, reduceIte, Nat.reduceAdd, c2', c1', decide_true, Bool.true_and, Bool.false_and]⟩
      | true =>
        rw [c3] at hA
        have hl := SlI.len (hpv.fr hf1)
        rw [List.length_map] at hl
        by_cases c4 : (path.length : Int) ≤ 200
        · have c4' : decide (path.length ≤ 200) = true := by simp; omega
          have hN := nested_ok false tv pv t path n.name hb hpos hp σ1 (ht.fr hf1) (hpv.fr hf1)
          have hg1 : σ1.get b = some (.cells f ty [.int .u8 (n.kind : Int), .str n.name, av, .str n.data, .int .i64 n.up, kv]) := by rw [hf1.get _ hlt]; exact hg
          simp only [B26_9, sA, reduceIte, Nat.reduceEqDiff, Int.reduceLT, Int.reduceLE, Int.reduceEq, Int.reduceNeg, reduceCtorEq, Nat.reduceAdd, sM, h0, h1, h7, hg, hg1, c1', opCall, argsOf, hK, c2, hA, hl, c4, hN] at hr
          exact ⟨_, _, hf1, hr.symm, by simp only [sV, Nat.reduceEqDiff, reduceIte, Nat.reduceAdd, c2', c1', c4', decide_true, Bool.true_and]⟩
        · have c4' : decide (path.length ≤ 200) = false := by simp; omega
          simp only [B26_9, sA, reduceIte, Nat.reduceEqDiff, Int.reduceLT, Int.reduceLE, Int.reduceEq, Int.reduceNeg, reduceCtorEq, Nat.reduceAdd, sM, h0, h1, h7, hg, c1', opCall, argsOf, hK, c2, hA, hl, c4] at hr
          exact ⟨_, _, hf1, hr.symm, by simp only [sV, Nat.reduceEqDiff, reduceIte, Nat.reduceAdd, c2', c1', c4', decide_true, Bool.true_and, Bool.false_and]⟩
    · have c2' : decide (0 < kindS n.name) = false := by simp; omega
      simp only [B26_9, sA, reduceIte, Nat.reduceEqDiff, Int.reduceLT, Int.reduceLE, Int.reduceEq, Int.reduceNeg, reduceCtorEq, Nat.reduceAdd, sM, h7, hg, c1', opCall, argsOf, hK, c2] at hr
      exact ⟨_, _, Fr.refl _, hr.symm, by simp only [sV, Nat.reduceEqDiff, reduceIte, Nat.reduceAdd, c2', c1', decide_true, Bool.true_and, Bool.false_and]⟩
  · simp only [B26_9, sA, reduceIte, Nat.reduceEqDiff, Int.reduceLT, Int.reduceLE, Int.reduceEq, Int.reduceNeg, reduceCtorEq, Nat.reduceAdd, sM, h7, hg, c1] at hr
    exact ⟨_, _, Fr.refl _, hr.symm, by simp only [sV, Nat.reduceEqDiff, reduceIte, Nat.reduceAdd, c1, decide_false, Bool.false_and]⟩
end
end Go.Ab.Dirs
end

set_option maxRecDepth 10000
noncomputable section
namespace Go.Ab.Dirs
open Go Go.Ab Go.Proofs Go.RowKit

theorem maxLen_eq : maxLen = 9223372036854775807 := by decide

theorem bN_wf {bs : List UInt8} (h : bs.length ≤ maxLen) : SWF (bN bs) := by
  refine ⟨fun c hc => ?_, ?_⟩
  · obtain ⟨b, _, rfl⟩ := List.mem_map.1 hc
    exact b.toNat_lt
  · rw [bN, List.length_map]; rw [maxLen_eq] at h; omega

section
variable {H : Type}

theorem dav_str (n : Nat) (bs : List UInt8) : dav SS.tt (n + 1) 9 (.lit (.string bs) : DataW H) = some [.str (bN bs)] := by
  simp only [dav, tt9, dav1]; rfl
theorem dav_i64 (n : Nat) (m : Int) : dav SS.tt (n + 1) 3 (.lit (.int .i64 m) : DataW H) = some [.int .i64 m] := by
  simp only [dav, tt3, dav1]; rfl
theorem dav_u8 (n : Nat) (m : Int) : dav SS.tt (n + 1) 5 (.lit (.int .u8 m) : DataW H) = some [.int .u8 m] := by
  simp only [dav, tt5, dav1]; rfl

/-- Rows of plain elements. -/
theorem davAll_of {α : Type} {f : DataW H → α → Prop} {g : α → List AVal} {h : DataW H → Option (List AVal)} (hf : ∀ d a, f d a → h d = some (g a)) : ∀ {es : List (DataW H)} {l : List α}, All2 f es l → davAll h es = some (l.flatMap g)
  | _, _, .nil => rfl
  | _, _, .cons hd ht => by
    simp only [davAll, hf _ _ hd, davAll_of hf ht]; rfl
theorem All2.len {α β : Type} {R : α → β → Prop} : ∀ {l : List α} {m : List β}, All2 R l m → l.length = m.length
  | _, _, .nil => rfl
  | _, _, .cons _ h => by simp [h.len]

theorem flat_len {α : Type} {g : α → List AVal} {s : Nat} (hs : ∀ a, (g a).length = s) : ∀ l : List α, (l.flatMap g).length = l.length * s
  | [] => by simp
  | a :: l => by rw [List.flatMap_cons, List.length_append, hs, flat_len hs l, List.length_cons, Nat.succ_mul]; omega

theorem row_dav {α : Type} {f : DataW H → α → Prop} {g : α → List AVal} {s n t e : Nat} {z : List AVal} {b : Nat} (htt : SS.tt.get (path t) = some ⟨.slice e, 1, b, z⟩) (hs : ∀ a, (g a).length = s) (hpos : 0 < s)
    (hf : ∀ d a, f d a → dav SS.tt n e d = some (g a)) {d : DataW H} {l : List α} (h : RowOf f d l) :
    ∃ v, dav SS.tt (n + 1) t d = some [v] ∧ ∀ σ, SlI σ s v l.length (l.flatMap g) := by
  cases h with
  | nil =>
    refine ⟨.nils, ?_, fun σ => ⟨trivial, rfl⟩⟩
    simp only [dav, htt, dav1]; rfl
  | slice hl h2 =>
    rename_i es rest
    have hh : davHead (dav SS.tt n e) es = true := by
      cases h2 with
      | nil => rfl
      | cons hd ht =>
        rename_i a b l m
        simp only [davHead, hf _ _ hd]
        cases hg : g b with
        | nil => have := hs b; rw [hg] at this; simp at this; omega
        | cons x xs => rfl
    refine ⟨.rslice l.length (l.flatMap g), ?_, fun σ => ⟨trivial, ?_⟩⟩
    · simp only [dav, htt, dav1, hh, if_true, davAll_of hf h2, h2.len]; rfl
    · simp only [cellsIn]
      rw [takeX_eq.2 ⟨by rw [flat_len hs]; exact Nat.le_refl _, rfl⟩, List.take_of_length_le (by rw [flat_len hs]; exact Nat.le_refl _)]

theorem attr_dav (n : Nat) (d : DataW H) (a : AttrD) (h : AttrOf d a) : dav SS.tt (n + 2) 39 d = some (attrCells a) := by
  obtain ⟨b1, b2, rfl, rfl, -, -⟩ := h
  simp only [dav, tt39, dav1, davFields, tt9]; rfl

theorem attrs_dav (n : Nat) {d : DataW H} {l : List AttrD} (h : RowOf AttrOf d l) : ∃ v, dav SS.tt (n + 3) 33 d = some [v] ∧ ∀ σ, AttrsI σ v l :=
  row_dav (g := attrCells) (s := 2) (n := n + 2) tt33 (fun _ => rfl) (by decide) (fun d a h => attr_dav n d a h) h
theorem kids_dav (n : Nat) {d : DataW H} {l : List Int} (h : RowOf IntOf d l) : ∃ v, dav SS.tt (n + 2) 34 d = some [v] ∧ ∀ σ, IntsI σ v l := by
  obtain ⟨v, h1, h2⟩ := row_dav (g := fun m => [AVal.int .i64 m]) (s := 1) (n := n + 1) tt34 (fun _ => rfl) (by decide) (fun d a h => by
    rw [h]; exact dav_i64 n a) h
  refine ⟨v, h1, fun σ => ?_⟩
  have := h2 σ
  unfold IntsI
  have e : ∀ l : List Int, l.flatMap (fun m => [AVal.int .i64 m]) = l.map (AVal.int .i64) := by
    intro l
    induction l with
    | nil => rfl
    | cons a l ih => rw [List.flatMap_cons, ih]; rfl
  rw [e] at this
  exact this

theorem row_len {α : Type} {f : DataW H → α → Prop} {d : DataW H} {l : List α} (h : RowOf f d l) : l.length < 9223372036854775808 := by
  cases h with
  | nil => show 0 < _; decide
  | slice hl hh => rw [← hh.len]; rw [maxLen_eq] at hl; omega
theorem all2_attrs {es : List (DataW H)} {l : List AttrD} (hh : All2 AttrOf es l) : ∀ a ∈ l, SWF a.1 ∧ SWF a.2 := by
  induction hh with
  | nil => intro a ha; simp at ha
  | cons hd _ ih =>
    intro a ha
    rcases List.mem_cons.1 ha with rfl | ha
    · obtain ⟨b1, b2, rfl, rfl, l1, l2⟩ := hd
      exact ⟨bN_wf l1, bN_wf l2⟩
    · exact ih a ha
theorem row_attrs {d : DataW H} {l : List AttrD} (h : RowOf AttrOf d l) : ∀ a ∈ l, SWF a.1 ∧ SWF a.2 := by
  cases h with
  | nil => intro a ha; simp at ha
  | slice hl hh => exact all2_attrs hh

theorem node_dav (n : Nat) {d : DataW H} {x : ND} (h : NodeOf d x) : ∃ av kv cs, dav SS.tt (n + 4) 36 d = some cs ∧ (∀ σ, NodeC σ x av kv cs) ∧ NWF x := by
  obtain ⟨k, nm, ad, dt, kd, rfl, rfl, h1, h2, h3, h4, h5, h6⟩ := h
  obtain ⟨av, a1, a2⟩ := attrs_dav n h5
  obtain ⟨kv, b1, b2⟩ := kids_dav (n + 1) h6
  refine ⟨av, kv, [.int .u8 (x.kind : Int), .str x.name, av, .str x.data, .int .i64 x.up, kv], ?_, fun σ => ⟨rfl, a2 σ, b2 σ⟩, ?_⟩
  · have e1 := dav_u8 (H := H) (n + 2) (x.kind : Int)
    have e2 := dav_str (H := H) (n + 2) nm
    have e3 := dav_str (H := H) (n + 2) dt
    have e4 := dav_i64 (H := H) (n + 2) x.up
    rw [show n + 4 = (n + 3) + 1 from rfl]
    rw [dav]
    simp only [tt36, dav1, davFields, e1, e2, a1, e3, e4, b1, List.length_cons, List.length_nil, Nat.zero_add, Nat.reduceAdd, if_true, List.cons_append, List.nil_append, h1, h2]
  · refine ⟨by rw [h1]; exact bN_wf h3, by rw [h2]; exact bN_wf h4, ?_, ?_, ?_⟩
    · exact row_attrs h5
    · exact row_len h5
    · exact row_len h6

theorem nodes_dav (n : Nat) : ∀ {es : List (DataW H)} {t : List ND}, All2 NodeOf es t → ∃ cs, davAll (dav SS.tt (n + 4) 36) es = some cs ∧ (∀ σ, NodesC σ t cs) ∧ (∀ x ∈ t, NWF x) ∧ cs.length = t.length * 6 ∧ davHead (dav SS.tt (n + 4) 36) es = true
  | _, _, .nil => ⟨[], rfl, fun _ => .nil, fun x hx => by simp at hx, rfl, rfl⟩
  | _, _, .cons hd ht => by
    obtain ⟨av, kv, cs, h1, h2, h3⟩ := node_dav n hd
    obtain ⟨ds, g1, g2, g3, g4, -⟩ := nodes_dav n ht
    have hcs : cs.length = 6 := by rw [(h2 st0).1]; rfl
    refine ⟨cs ++ ds, by simp only [davAll, h1, g1], fun σ => .cons (h2 σ) (g2 σ), ?_, by rw [List.length_append, hcs, g4, List.length_cons, Nat.succ_mul]; omega, ?_⟩
    · intro x hx
      rcases List.mem_cons.1 hx with rfl | hx
      · exact h3
      · exact g3 x hx
    · simp only [davHead, h1]
      rw [(h2 st0).1]

/-- A tree of the rows. -/
theorem tree_dav {d : DataW H} {t : List ND} (h : RowOf NodeOf d t) : ∃ v, dav SS.tt 6 23 d = some [v] ∧ (∀ σ, TreeI σ v t) ∧ (∀ x ∈ t, NWF x) ∧ t.length < 9223372036854775808 := by
  cases h with
  | nil =>
    refine ⟨.nils, ?_, fun σ => ⟨[], ⟨trivial, rfl⟩, .nil⟩, fun x hx => by simp at hx, by show 0 < _; decide⟩
    simp only [dav, tt23, dav1]; rfl
  | slice hl hh =>
    rename_i es rest
    obtain ⟨cs, h1, h2, h3, h4, h5⟩ := nodes_dav 1 hh
    refine ⟨.rslice t.length cs, ?_, fun σ => ⟨cs, ⟨trivial, ?_⟩, h2 σ⟩, h3, by rw [← hh.len]; rw [maxLen_eq] at hl; omega⟩
    · rw [dav]
      simp only [tt23, dav1, h5, if_true, h1, hh.len]
      rfl
    · simp only [cellsIn]
      rw [takeX_eq.2 ⟨by rw [h4]; exact Nat.le_refl _, rfl⟩, List.take_of_length_le (by rw [h4]; exact Nat.le_refl _)]
end

/-- What is handed to a law as its tree. -/
theorem tree_arg {H : Type} {enc : TypeId × Value → H} {sp : Nat → Bool} {held : Bool} {W : World} {base : Nat} {v : Value} {d : DataW H} {p : List MemPlace} (hv : Value.okWide Tryz.prog W .any base 23 v) (h : DataW.Trod enc Tryz.prog W 0 sp held 23 v d p) :
    ∃ a t, VR W [] a v ∧ (∀ σ, TreeI σ a t) ∧ (∀ x ∈ t, NWF x) ∧ t.length < 9223372036854775808 := by
  obtain ⟨x, len, cap, rfl⟩ := Go.WideShapes.okWide_slice Tryz.underlying23 hv
  obtain ⟨fuel, hf⟩ := h
  obtain ⟨t, ht⟩ := tree_of hf
  obtain ⟨a, h1, h2, h3, h4⟩ := tree_dav ht
  have hS := OKS.of (P := Tryz.prog) (S := SS) tt_ok
  obtain ⟨hvr, -⟩ := trod_VRs hS fuel 6 23 _ d p [a] hf h1
  refine ⟨a, t, ?_, h2, h3, h4⟩
  have hc : (Value.slice x len cap).cells.toList = [.slice x len cap] := rfl
  rw [hc] at hvr
  obtain ⟨y, ys, e, hy, -⟩ := hvr
  cases e
  exact hy
end Go.Ab.Dirs
end
