/- Printed by a program of this claim: what stands in the table. -/
import Derived.Test.YthbanbnmomcohaaGreatDoorM12
import Derived.KernelRfl
import Derived.Test.YthbanbnmomcohaaGreatDoorM19
import Derived.Test.YthbanbnmomcohaaGreatDoorM18
import Derived.Test.YthbanbnmomcohaaGreatDoorM21
set_option linter.all false
set_option linter.unusedSimpArgs false
namespace Go.Ab.Dirs
open Go Go.Ab
set_option maxRecDepth 100000
noncomputable section
/- 3 selvedge/selvedgelaw10.DirsAll -/
theorem fn3 : (TS).fn.get (path 3) = some ⟨1, [.tmp (path 2)], c3⟩ := by kernel_rfl
/- 6 selvedge/selvedgelaw10.DirsTells -/
theorem fn6 : (TS).fn.get (path 6) = some ⟨2, [.tmp (path 4)], c6⟩ := by kernel_rfl
/- 7 selvedge/selvedgelaw10.DirsIsolated -/
theorem fn7 : (TS).fn.get (path 7) = some ⟨3, [.tmp (path 6)], c7⟩ := by kernel_rfl
/- 12 selvedge/selvedgeref10.All -/
theorem fn12 : (TS).fn.get (path 12) = some ⟨1, [.tmp (path 2), .tmp (path 3)], c12⟩ := by kernel_rfl
/- 17 selvedge/dirs.Sheet -/
theorem fn17 : (TS).fn.get (path 17) = some ⟨2, [.tmp (path 4), .tmp (path 5), .tmp (path 6)], c17⟩ := by kernel_rfl
/- 18 selvedge/selvedgeref05.Right -/
theorem fn18 : (TS).fn.get (path 18) = some ⟨1, [.tmp (path 2)], c18⟩ := by kernel_rfl
/- 19 selvedge/selvedgeref10.Scan -/
theorem fn19 : (TS).fn.get (path 19) = some ⟨2, [.tmp (path 4), .tmp (path 5)], c19⟩ := by kernel_rfl
/- 20 selvedge/selvedgeref10.Sheet -/
theorem fn20 : (TS).fn.get (path 20) = some ⟨2, [.tmp (path 4), .tmp (path 5), .tmp (path 6)], c20⟩ := by kernel_rfl
/- 21 selvedge/selvedgeref10.State -/
theorem fn21 : (TS).fn.get (path 21) = some ⟨2, [.tmp (path 4)], c21⟩ := by kernel_rfl
/- 22 selvedge/selvedgeref05.Well -/
theorem fn22 : (TS).fn.get (path 22) = some ⟨1, [.tmp (path 2)], c22⟩ := by kernel_rfl
/- 23 selvedge/selvedgelaw10.below -/
theorem fn23 : (TS).fn.get (path 23) = some ⟨3, [.tmp (path 6)], c23⟩ := by kernel_rfl
/- 30 selvedge/selvedgeref05.shaped -/
theorem fn30 : (TS).fn.get (path 30) = some ⟨1, [.tmp (path 2)], c30⟩ := by kernel_rfl
/- 31 selvedge/selvedgeref05.Kind -/
theorem fn31 : (TS).fn.get (path 31) = some ⟨1, [.tmp (path 2)], c31⟩ := by kernel_rfl
/- 32 selvedge/selvedgeref05.attrs -/
theorem fn32 : (TS).fn.get (path 32) = some ⟨1, [.tmp (path 2)], c32⟩ := by kernel_rfl
/- 33 selvedge/selvedgeref05.nested -/
theorem fn33 : (TS).fn.get (path 33) = some ⟨2, [.tmp (path 4)], c33⟩ := by kernel_rfl
/- 34 selvedge/selvedgeref10.first -/
theorem fn34 : (TS).fn.get (path 34) = some ⟨1, [.tmp (path 2), .tmp (path 3)], c34⟩ := by kernel_rfl
/- 35 selvedge/selvedgeref04.Small -/
theorem fn35 : (TS).fn.get (path 35) = some ⟨1, [.tmp (path 2)], c35⟩ := by kernel_rfl
/- 36 selvedge/selvedgeref02.Cut -/
theorem fn36 : (TS).fn.get (path 36) = some ⟨1, [.cell (path 2) (some 3)], c36⟩ := by kernel_rfl
/- 48 selvedge/selvedgeref05.among -/
theorem fn48 : (TS).fn.get (path 48) = some ⟨2, [.tmp (path 4)], c48⟩ := by kernel_rfl
/- 49 selvedge/selvedgeref05.ends -/
theorem fn49 : (TS).fn.get (path 49) = some ⟨1, [.tmp (path 2)], c49⟩ := by kernel_rfl
/- 50 selvedge/selvedgeref05.wall -/
theorem fn50 : (TS).fn.get (path 50) = some ⟨1, [.tmp (path 2)], c50⟩ := by kernel_rfl
/- 51 selvedge/selvedgeref02.Runes -/
theorem fn51 : (TS).fn.get (path 51) = some ⟨1, [.tmp (path 2)], c51⟩ := by kernel_rfl
/- 52 selvedge/selvedgeref01.Class -/
theorem fn52 : (TS).fn.get (path 52) = some ⟨1, [.tmp (path 2)], c52⟩ := by kernel_rfl
/- 53 selvedge/selvedgeref02.size -/
theorem fn53 : (TS).fn.get (path 53) = some ⟨1, [.tmp (path 2)], c53⟩ := by kernel_rfl
/- 54 selvedge/selvedgeref02.second -/
theorem fn54 : (TS).fn.get (path 54) = some ⟨2, [.tmp (path 4)], c54⟩ := by kernel_rfl
end
end Go.Ab.Dirs

set_option maxRecDepth 100000
noncomputable section
namespace Go.Ab.Dirs
open Go Go.Ab

theorem runOps_append {T : Tab} {cf : CF} {q : Bool} : ∀ (a b : List AOper) (env : Env) (σ : St), runOps T cf q (a ++ b) env σ = (match runOps T cf q a env σ with | some r => runOps T cf q b r.1 r.2 | none => none)
  | [], b, env, σ => rfl
  | o :: a, b, env, σ => by
    rw [List.cons_append, runOps_cons, runOps_cons]
    cases wantedA o env with
    | true =>
      simp only
      cases stepOp T cf q o.op env σ with
      | none => rfl
      | some r => exact runOps_append a b _ _
    | false => exact runOps_append a b _ _

theorem putX_full : ∀ (a b : List AVal), a.length = b.length → putX 0 a b = some b
  | [], [], _ => rfl
  | [], _ :: _, h => by simp at h
  | _ :: _, [], h => by simp at h
  | x :: a, y :: b, h => by
    have := putX_full a b (by simpa using h)
    unfold putX; rw [this]

def ops70 : List AOper := match af70.body with | .seq (.region _ a) (.seq (.region _ b) _) => a ++ b | _ => []
def mid70 : List AOper := (ops70.drop 1).take 147
def z70 : List AVal := match ops70 with | ⟨_, .alloc _ z, _, _⟩ :: _ => z | _ => []
theorem body70 : af70.body = .seq (.region false [⟨some (path 0), .alloc 104 z70, none, .pure⟩]) (.seq (.region false (mid70 ++ [⟨none, .store 438 (.t (path 0)) (.t (path 147)), none, .pure⟩])) .ret) := by kernel_rfl
theorem fn70 : TS.fn.get (path 70) = some ⟨0, [.cell (path 0) (some 438)], af70.body⟩ := by kernel_rfl
def env70 (b : Nat) : Env := match runOps TS (fun _ _ _ _ => none) false mid70 (U .emp 0 (.ptr b 0)) st0 with | some r => r.1 | none => .emp
theorem run70 (cf : CF) (b : Nat) (σ : St) : runOps TS cf false mid70 (U .emp 0 (.ptr b 0)) σ = some (env70 b, σ) := by kernel_rfl
def spansC : List AVal := match V (env70 0) 147 with | .agg l => l | _ => []
theorem env70_147 (b : Nat) : V (env70 b) 147 = .agg spansC := by kernel_rfl
theorem env70_0 (b : Nat) : V (env70 b) 0 = .ptr b 0 := by kernel_rfl
theorem spansC_len : spansC.length = 438 := by kernel_rfl
theorem z70_len : z70.length = 438 := by kernel_rfl
theorem spansC_one : allOne spansC = true := by kernel_rfl

theorem spans_ok (σ : St) : ∃ σ', Fr σ σ' ∧ Cw TS false 70 [] σ = some (.agg spansC, σ') := by
  have hg : (σ.new (.cells true 104 z70)).get σ.next = some (.cells true 104 z70) := St.get_new_same _ _
  have hst : stS (σ.new (.cells true 104 z70)) 438 (.ptr σ.next 0) (.agg spansC) = some ((σ.new (.cells true 104 z70)).put σ.next (.cells true 104 spansC)) := by
    rw [stS_ptr, hg]
    simp only [cells_agg, lenL_eq, spansC_len, spansC_one, and_self, if_true, putX_full z70 spansC (by rw [z70_len, spansC_len])]
  refine ⟨(σ.new (.cells true 104 z70)).put σ.next (.cells true 104 spansC), (Fr.new _ _).put (Nat.le_refl _) _, ?_⟩
  rw [Cw_of fn70 false _ σ rfl]
  simp only [body70, Ew_seq, Ew_region, Ew_ret]
  simp only [runOps_cons, runOps_nil, wanted_none, stepOp, opAlloc, Bool.false_eq_true, if_false, St.newK_eq, setDst_some, envOf_nil]
  rw [runOps_append, run70]
  simp only [runOps_cons, runOps_nil, wanted_none, stepOp, opStore_s, Bool.false_eq_true, if_false, ev_t, env70_0, env70_147, hst, setDst_none, fin_ret, resV, resAll, resOne, St.get_put_same, dropX_zero, loadL]
  rw [takeX_eq.2 ⟨by rw [spansC_len]; exact Nat.le_refl _, rfl⟩]
  rw [List.take_of_length_le (by rw [spansC_len]; exact Nat.le_refl _)]

/-- The spans. -/
def triples : List AVal → List (Int × Int × Int)
  | .int _ a :: .int _ b :: .int _ c :: l => (a, b, c) :: triples l
  | _ => []
def spanC (x : Int × Int × Int) : List AVal := [.int .i32 x.1, .int .i32 x.2.1, .int .u8 x.2.2]
def spansL : List (Int × Int × Int) := triples spansC
theorem spansC_eq : spansC = spansL.flatMap spanC := eqAs_eq _ _ (by decide +kernel)
theorem spansL_len : spansL.length = 146 := by kernel_rfl

def classG (r : Int) : List (Int × Int × Int) → Int
  | [] => 1
  | (a, b, c) :: l => if r < a then 1 else if r ≤ b then c else classG r l
/-- A character's class. -/
def classS (r : Int) : Int := classG r spansL

def ixArrS (len s : Nat) (agg : Bool) (v i : AVal) : Option AVal := match v, i with
  | .agg cs, .int _ i => if 0 ≤ i ∧ i < (len : Int) then (match dropX (i.toNat * s) cs with | some l => loadL (if agg then some s else none) l | none => none) else none
  | _, _ => none
theorem opIxArr_s {T : Tab} {len s : Nat} {agg : Bool} {x i : Opd} {env : Env} {σ : St} : opIxArr T len s agg x i env σ = (match ixArrS len s agg (x.ev T env) (i.ev T env) with | some v => some (v, σ) | none => none) := by
  unfold opIxArr ixArrS
  cases x.ev T env <;> try rfl
  rename_i cs
  cases i.ev T env <;> try rfl
  rename_i k n
  simp only
  split
  · cases dropX (n.toNat * s) cs with
    | none => rfl
    | some l => rfl
  · rfl

theorem span_at {i : Nat} (hi : i < 146) : ixArrS 146 3 true (.agg spansC) (.int .i64 (i : Int)) = some (.agg [.int .i32 (spansL[i]'(by rw [spansL_len]; exact hi)).1, .int .i32 (spansL[i]'(by rw [spansL_len]; exact hi)).2.1, .int .u8 (spansL[i]'(by rw [spansL_len]; exact hi)).2.2]) := by
  have h := spansL_len
  simp only [ixArrS, Int.toNat_natCast]
  rw [if_pos ⟨by omega, by omega⟩, dropX_eq.2 ⟨by rw [spansC_len]; omega, rfl⟩, spansC_eq, drop_flatMap (f := spanC) (s := 3) (fun _ => rfl), List.drop_eq_getElem_cons (by omega), List.flatMap_cons]
  rfl

theorem class_loop (c : Int) : ∀ (m i : Nat) (env : Env) (σ : St) (r : Option (Out × Env × St)), Ew TS false (.loop L47_1) env σ = r → i + m = 146 →
    V env 0 = .int .i32 c → V env 5 = .agg spansC → V env 6 = .int .i64 i →
    ∃ e σ', Fr σ σ' ∧ ((classG c (spansL.drop i) = 1 ∧ r = some (.exit 0, e, σ')) ∨ (r = some (.ret, e, σ') ∧ V e 2 = .int .u8 (classG c (spansL.drop i))))
  | 0, i, env, σ, r, hr, hi, h0, h5, h6 => by
    have hlt : ¬ ((i : Int) < 146) := by omega
    rw [Ew_loop] at hr
    simp only [L47_1, sA, reduceIte, Nat.reduceEqDiff, Int.reduceLT, Int.reduceLE, Int.reduceEq, Int.reduceNeg, reduceCtorEq, Nat.reduceAdd, h0, h5, h6, hlt] at hr
    refine ⟨_, _, Fr.refl _, .inl ⟨?_, hr.symm⟩⟩
    rw [List.drop_eq_nil_of_le (by rw [spansL_len]; omega)]; rfl
  | m + 1, i, env, σ, r, hr, hi, h0, h5, h6 => by
    have hl := spansL_len
    have hlt : ((i : Int) < 146) := by omega
    have hw : wrapI .i64 ((i : Int) + 1) = ((i + 1 : Nat) : Int) := by rw [wrap_i64 (by omega) (by omega)]; omega
    have ha := span_at (i := i) (by omega)
    rw [List.drop_eq_getElem_cons (by omega)]
    obtain ⟨⟨a, b, k⟩, hx⟩ : ∃ x, spansL[i]'(by omega) = x := ⟨_, rfl⟩
    rw [hx] at ha ⊢
    simp only [classG]
    simp only at ha
    have hf : ∀ z o, Fr σ ((σ.new z).put σ.next o) := fun z o => (Fr.new _ _).put (Nat.le_refl _) _
    rw [Ew_loop] at hr
    by_cases c1 : c < a
    · rw [if_pos c1]
      simp only [L47_1, sA, reduceIte, Nat.reduceEqDiff, Int.reduceLT, Int.reduceLE, Int.reduceEq, Int.reduceNeg, reduceCtorEq, Nat.reduceAdd, sM, h0, h5, h6, hlt, opIxArr_s, ha, c1] at hr
      exact ⟨_, _, hf _ _, .inl ⟨rfl, hr.symm⟩⟩
    · rw [if_neg c1]
      by_cases c2 : c ≤ b
      · rw [if_pos c2]
        simp only [L47_1, sA, reduceIte, Nat.reduceEqDiff, Int.reduceLT, Int.reduceLE, Int.reduceEq, Int.reduceNeg, reduceCtorEq, Nat.reduceAdd, sM, h0, h5, h6, hlt, opIxArr_s, ha, c1, c2] at hr
        exact ⟨_, _, hf _ _, .inr ⟨hr.symm, by simp only [sV, Nat.reduceEqDiff, reduceIte, Nat.reduceAdd]⟩⟩
      · rw [if_neg c2]
        simp only [L47_1, sA, reduceIte, Nat.reduceEqDiff, Int.reduceLT, Int.reduceLE, Int.reduceEq, Int.reduceNeg, reduceCtorEq, Nat.reduceAdd, sM, h0, h5, h6, hlt, opIxArr_s, ha, c1, c2, hw] at hr
        obtain ⟨e, σ5, hf5, h⟩ := class_loop c m (i + 1) _ _ r hr (by omega) (by simp only [sV, Nat.reduceEqDiff, reduceIte, Nat.reduceAdd, h0]) (by simp only [sV, Nat.reduceEqDiff, reduceIte, Nat.reduceAdd, h5]) (by simp only [sV, Nat.reduceEqDiff, reduceIte, Nat.reduceAdd])
        exact ⟨e, σ5, (hf _ _).trans hf5, h⟩

theorem Class_ok (c : Int) (σ : St) : ∃ σ', Fr σ σ' ∧ Cw TS false 47 [.int .i32 c] σ = some (.int .u8 (classS c), σ') := by
  obtain ⟨σ1, hf1, hs⟩ := spans_ok σ
  rw [Cw_of fn47 false _ σ rfl]
  simp only [c47, sA, reduceIte, Nat.reduceEqDiff, Int.reduceLT, Int.reduceLE, Int.reduceEq, Int.reduceNeg, reduceCtorEq, Nat.reduceAdd, opCall, argsOf, hs]
  generalize hr : Ew TS false (.loop L47_1) _ _ = r
  obtain ⟨e, σ', hf, ⟨h1, rfl⟩ | ⟨rfl, h3⟩⟩ := class_loop c 146 0 _ _ r hr (by omega) (by simp only [sV, Nat.reduceEqDiff, reduceIte, Nat.reduceAdd]) (by simp only [sV, Nat.reduceEqDiff, reduceIte, Nat.reduceAdd]) (by simp only [sV, Nat.reduceEqDiff, reduceIte, Nat.reduceAdd]; rfl)
  · refine ⟨σ', hf1.trans hf, ?_⟩
    have h1 : classS c = 1 := h1
    simp only [sA, reduceIte, Nat.reduceEqDiff, Int.reduceLT, Int.reduceLE, Int.reduceEq, Int.reduceNeg, reduceCtorEq, Nat.reduceAdd, h1]
  · refine ⟨σ', hf1.trans hf, ?_⟩
    have h3 : V e 2 = .int .u8 (classS c) := h3
    simp only [sA, reduceIte, Nat.reduceEqDiff, Int.reduceLT, Int.reduceLE, Int.reduceEq, Int.reduceNeg, reduceCtorEq, Nat.reduceAdd, h3]
end Go.Ab.Dirs
end

set_option maxRecDepth 10000
noncomputable section
namespace Go.Ab.Dirs
open Go Go.Ab

theorem idxS_cases (x : Int) : ∀ (l : List Int) (i : Nat), idxS x l i = -1 ∨ ∃ j : Nat, i ≤ j ∧ idxS x l i = (j : Int)
  | [], i => .inl rfl
  | y :: l, i => by
    unfold idxS
    split
    · exact .inr ⟨i, Nat.le_refl _, rfl⟩
    · rcases idxS_cases x l (i + 1) with h | ⟨j, h1, h2⟩
      · exact .inl h
      · exact .inr ⟨j, by omega, h2⟩
theorem idxS_lt (x : Int) (l : List Int) : idxS x l 0 < 1 ∨ ∃ j : Nat, idxS x l 0 = ((j + 1 : Nat) : Int) := by
  rcases idxS_cases x l 0 with h | ⟨j, h1, h2⟩
  · left; rw [h]; decide
  · cases j with
    | zero => left; rw [h2]; decide
    | succ j => exact .inr ⟨j, h2⟩

theorem Copy.of {σ : St} {n : ND} {av kv p z : AVal} {zs : List AVal} {f : Bool} {t : TypeId} (h : NodeAt σ p n av kv) : Copy ((σ.new (.cells f t zs)).put σ.next (.cells f t [.int .u8 (n.kind : Int), .str n.name, av, .str n.data, .int .i64 n.up, kv])) σ.next n av kv :=
  ⟨⟨f, t, St.get_put_same _ _ _⟩, Nat.lt_succ_self _, h.attrs.fr ((Fr.new _ _).put (Nat.le_refl _) _), h.kids.fr ((Fr.new _ _).put (Nat.le_refl _) _)⟩

set_option maxHeartbeats 2000000 in
theorem fits_ok {σ : St} {tv pv : AVal} {t : List ND} {path : List Nat} {i : Nat} (ht : TreeI σ tv t) (hpv : IntsI σ pv (path.map Int.ofNat)) (hi : i < t.length) (hwf : ∀ n ∈ t, NWF n) (hb : path.length < 9223372036854775808) (hpos : 0 < path.length) (hp : ∀ p ∈ path, p < t.length)
    (hv : i ≠ 0 → ∀ j : Nat, idxS (i : Int) (upOf t path).kids 0 = ((j + 1 : Nat) : Int) → ∃ z : Nat, ∃ (h : j < (upOf t path).kids.length), (upOf t path).kids[j] = (z : Int) ∧ z < t.length) :
    ∃ σ', Fr σ σ' ∧ Cw TS false 26 [tv, pv, .int .i64 (i : Int)] σ = some (.bool (fitsS t path i t[i]), σ') := by
  obtain ⟨av, kv, x1, x2⟩ := ht.get hi
  have x1 := x1 .i64
  have hn := hwf t[i] (List.getElem_mem _)
  have o1 := x2.attrs.one
  have o2 := x2.kids.one
  have hc := Copy.of (z := .nils) (f := true) (t := 36) (zs := [.int .u8 0, .str [], .nils, .str [], .int .i64 0, .nils]) x2
  have hf2 : Fr σ ((σ.new (.cells true 36 [.int .u8 0, .str [], .nils, .str [], .int .i64 0, .nils])).put σ.next (.cells true 36 [.int .u8 (t[i].kind : Int), .str t[i].name, av, .str t[i].data, .int .i64 t[i].up, kv])) := (Fr.new _ _).put (Nat.le_refl _) _
  generalize e2 : (σ.new (.cells true 36 [.int .u8 0, .str [], .nils, .str [], .int .i64 0, .nils])).put σ.next (.cells true 36 [.int .u8 (t[i].kind : Int), .str t[i].name, av, .str t[i].data, .int .i64 t[i].up, kv]) = σ2 at hc hf2
  rw [Cw_of fn26 false _ σ rfl]
  simp only [c26, B26_1, sA, reduceIte, Nat.reduceEqDiff, Int.reduceLT, Int.reduceLE, Int.reduceEq, Int.reduceNeg, reduceCtorEq, Nat.reduceAdd, sM, x1, x2.ld, o1, o2, e2]
  generalize hr2 : Ew TS false B26_2 _ _ = r2
  obtain ⟨ea, rfl, q8, q0, q1, q2, q7⟩ := fits_2 hr2 hc (by simp only [sV, Nat.reduceEqDiff, reduceIte, Nat.reduceAdd])
  simp only [sV, Nat.reduceEqDiff, reduceIte, Nat.reduceAdd] at q0 q1 q2 q7
  by_cases h0 : i = 0
  · have h0' := eq_true (show (i : Int) = 0 by omega)
    obtain ⟨⟨f, ty, hg⟩, -⟩ := hc
    cases hpl : plainS t[i] with
    | false =>
      rw [hpl] at q8
      have hfs : fitsS t path i t[i] = false := by unfold fitsS; rw [if_pos h0, hpl]; rfl
      simp only [sA, reduceIte, Nat.reduceEqDiff, Int.reduceLT, Int.reduceLE, Int.reduceEq, Int.reduceNeg, reduceCtorEq, Nat.reduceAdd, B26_4, B26_3, q8, q2, h0', hfs]
      exact ⟨_, hf2, rfl⟩
    | true =>
      rw [hpl] at q8
      have hfs : fitsS t path i t[i] = decide (t[i].data = []) := by unfold fitsS; rw [if_pos h0, hpl, Bool.true_and]
      simp only [sA, reduceIte, Nat.reduceEqDiff, Int.reduceLT, Int.reduceLE, Int.reduceEq, Int.reduceNeg, reduceCtorEq, Nat.reduceAdd, sM, B26_4, B26_3, q8, q2, q7, h0', hg, hfs]
      exact ⟨_, hf2, rfl⟩
  · have h0' : ¬ (i : Int) = 0 := by omega
    have hl := SlI.len (hpv.fr hf2)
    rw [List.length_map] at hl
    have hw : wrapI .i64 ((path.length : Int) - 1) = ((path.length - 1 : Nat) : Int) := by rw [wrap_i64 (by omega) (by omega)]; omega
    have hil : path.length - 1 < path.length := by omega
    obtain ⟨g1, g2⟩ := (hpv.fr hf2).get (i := path.length - 1) (by simpa using hil) (k := .i64)
    have hpm : path[path.length - 1] < t.length := hp _ (List.getElem_mem _)
    simp only [List.getElem_map, Int.ofNat_eq_natCast] at g2
    obtain ⟨av2, kv2, y1, y2⟩ := (ht.fr hf2).get hpm
    have y1 := y1 .i64
    have hup : upOf t path = t[path[path.length - 1]] := by
      unfold upOf
      have : path.getD (path.length - 1) 0 = path[path.length - 1] := by rw [List.getD_eq_getElem?_getD, List.getElem?_eq_getElem hil, Option.getD_some]
      rw [this, List.getD_eq_getElem?_getD, List.getElem?_eq_getElem hpm, Option.getD_some]
    have hv := hv h0
    rw [hup] at hv
    generalize hu : t[path[path.length - 1]] = u at *
    have hun := hwf u (by rw [← hu]; exact List.getElem_mem _)
    have o3 := y2.attrs.one
    have o4 := y2.kids.one
    have hc2 := Copy.of (z := .nils) (f := true) (t := 36) (zs := [.int .u8 0, .str [], .nils, .str [], .int .i64 0, .nils]) y2
    have hf3 : Fr σ2 ((σ2.new (.cells true 36 [.int .u8 0, .str [], .nils, .str [], .int .i64 0, .nils])).put σ2.next (.cells true 36 [.int .u8 (u.kind : Int), .str u.name, av2, .str u.data, .int .i64 u.up, kv2])) := (Fr.new _ _).put (Nat.le_refl _) _
    have y2l := y2.ld
    generalize e3 : (σ2.new (.cells true 36 [.int .u8 0, .str [], .nils, .str [], .int .i64 0, .nils])).put σ2.next (.cells true 36 [.int .u8 (u.kind : Int), .str u.name, av2, .str u.data, .int .i64 u.up, kv2]) = σ3 at hc2 hf3
    have hc' := hc.fr hf3
    have hf := hf2.trans hf3
    simp only [sA, reduceIte, Nat.reduceEqDiff, Int.reduceLT, Int.reduceLE, Int.reduceEq, Int.reduceNeg, reduceCtorEq, Nat.reduceAdd, sM, B26_4, B26_5, q8, q0, q1, q2, q7, h0', hl, hw, g1, g2, y1, y2l, o3, o4, e3]
    generalize hr6 : Ew TS false B26_6 _ _ = r6
    obtain ⟨eb, rfl, p54, p0, p1, p2, p7, p8, p9⟩ := fits_6 hr6 hc2 (by simp only [sV, Nat.reduceEqDiff, reduceIte, Nat.reduceAdd])
    simp only [sV, Nat.reduceEqDiff, reduceIte, Nat.reduceAdd, q0, q1, q2, q7, q8] at p0 p1 p2 p7 p8 p9
    cases hub : upBad u with
    | true =>
      rw [hub] at p54
      have hfs : fitsS t path i t[i] = false := by unfold fitsS; rw [if_neg h0, hup, hub, if_pos rfl]
      simp only [sA, reduceIte, Nat.reduceEqDiff, Int.reduceLT, Int.reduceLE, Int.reduceEq, Int.reduceNeg, reduceCtorEq, Nat.reduceAdd, p54, hfs]
      exact ⟨_, hf, rfl⟩
    | false =>
      rw [hub] at p54
      obtain ⟨⟨f, ty, hg⟩, -⟩ := id hc'
      by_cases k2 : t[i].kind = 2
      · have k2' := eq_true (show (t[i].kind : Int) = 2 by omega)
        have hfs : fitsS t path i t[i] = (plainS t[i] && (decide (t[i].data ≠ []) && (wellS t[i].data && prevS t u i))) := by unfold fitsS; rw [if_neg h0, hup, hub, if_neg (by decide), if_pos k2]
        obtain ⟨⟨f2, ty2, hg2⟩, -, -, hk2⟩ := id hc2
        have hI := Index_ok false kv2 u.kids (i : Int) σ3 hk2 hun.klen
        simp only [sA, reduceIte, Nat.reduceEqDiff, Int.reduceLT, Int.reduceLE, Int.reduceEq, Int.reduceNeg, reduceCtorEq, Nat.reduceAdd, sM, p54, p7, p9, p2, B26_12, B26_11, B26_10, B26_7, hg, hg2, k2', opCall, argsOf, hI]
        generalize hr8 : Ew TS false B26_8 _ _ = r8
        obtain ⟨ec, σ4, hf4, rfl, z6⟩ := fits_8 hr8 hn hc' hc2 (ht.fr hf) hun.klen hv (idxS_lt _ _) (by simp only [sV, Nat.reduceEqDiff, reduceIte, Nat.reduceAdd, p0]) (by simp only [sV, Nat.reduceEqDiff, reduceIte, Nat.reduceAdd, p7]) (by simp only [sV, Nat.reduceEqDiff, reduceIte, Nat.reduceAdd, p8]) (by simp only [sV, Nat.reduceEqDiff, reduceIte, Nat.reduceAdd, p9]) (by simp only [sV, Nat.reduceEqDiff, reduceIte, Nat.reduceAdd])
        simp only [sA, reduceIte, Nat.reduceEqDiff, Int.reduceLT, Int.reduceLE, Int.reduceEq, Int.reduceNeg, reduceCtorEq, Nat.reduceAdd, z6, hfs]
        exact ⟨_, hf.trans hf4, rfl⟩
      · have k2' : ¬ (t[i].kind : Int) = 2 := by omega
        by_cases k1 : t[i].kind = 1
        · have k1' := eq_true (show (t[i].kind : Int) = 1 by omega)
          have hfs : fitsS t path i t[i] = (decide (t[i].data = []) && (decide (0 < kindS t[i].name) && (attrsS t[i].attrs && (decide (path.length ≤ 200) && nestedS t path t[i].name)))) := by unfold fitsS; rw [if_neg h0, hup, hub, if_neg (by decide), if_neg k2, if_pos k1]
          simp only [sA, reduceIte, Nat.reduceEqDiff, Int.reduceLT, Int.reduceLE, Int.reduceEq, Int.reduceNeg, reduceCtorEq, Nat.reduceAdd, sM, p54, p7, B26_12, B26_11, B26_10, hg, k2', k1']
          generalize hr9 : Ew TS false B26_9 _ _ = r9
          obtain ⟨ec, σ4, hf4, rfl, z6⟩ := fits_9 hr9 hn hc' (ht.fr hf) hb hpos hp (hpv.fr hf) (by simp only [sV, Nat.reduceEqDiff, reduceIte, Nat.reduceAdd, p0]) (by simp only [sV, Nat.reduceEqDiff, reduceIte, Nat.reduceAdd, p1]) (by simp only [sV, Nat.reduceEqDiff, reduceIte, Nat.reduceAdd, p7])
          simp only [sA, reduceIte, Nat.reduceEqDiff, Int.reduceLT, Int.reduceLE, Int.reduceEq, Int.reduceNeg, reduceCtorEq, Nat.reduceAdd, z6, hfs]
          exact ⟨_, hf.trans hf4, rfl⟩
        · have k1' : ¬ (t[i].kind : Int) = 1 := by omega
          have hfs : fitsS t path i t[i] = false := by unfold fitsS; rw [if_neg h0, hup, hub, if_neg (by decide), if_neg k2, if_neg k1]
          simp only [sA, reduceIte, Nat.reduceEqDiff, Int.reduceLT, Int.reduceLE, Int.reduceEq, Int.reduceNeg, reduceCtorEq, Nat.reduceAdd, sM, p54, p7, B26_12, B26_11, B26_10, hg, k2', k1', hfs]
          exact ⟨_, hf, rfl⟩
end Go.Ab.Dirs
end

set_option maxRecDepth 10000
noncomputable section
namespace Go.Ab.Dirs
open Go Go.Ab

/-- An own row of numbers. -/
def OwnI (σ : St) (b : Nat) (l : List Nat) : Prop := b < σ.next ∧ ∃ f cs, σ.get b = some (.cells f 3 cs) ∧ l.length ≤ cs.length ∧ cs.take l.length = l.map fun x : Nat => AVal.int .i64 (x : Int)
theorem OwnI.fr {σ σ' : St} {b : Nat} {l : List Nat} (h : OwnI σ b l) (hf : Fr σ σ') : OwnI σ' b l := by
  obtain ⟨h1, f, cs, h2, h3⟩ := h
  exact ⟨Nat.lt_of_lt_of_le h1 hf.next, f, cs, by rw [hf.get _ h1]; exact h2, h3⟩
theorem OwnI.ints {σ : St} {b : Nat} {l : List Nat} (h : OwnI σ b l) : IntsI σ (.slice b 0 l.length 1) (l.map Int.ofNat) := by
  obtain ⟨h1, f, cs, h2, h3, h4⟩ := h
  refine ⟨h1, ?_⟩
  simp only [cellsIn, h2, if_true, List.length_map]
  rw [sub_eq.2 ⟨by omega, rfl⟩]
  simp only [List.drop_zero, Nat.mul_one, h4, List.map_map]
  rfl
theorem OwnI.take {σ : St} {b : Nat} {l : List Nat} (h : OwnI σ b l) (k : Nat) : OwnI σ b (l.take k) := by
  obtain ⟨h1, f, cs, h2, h3, h4⟩ := h
  refine ⟨h1, f, cs, h2, ?_, ?_⟩
  · rw [List.length_take]; omega
  · rw [List.length_take, List.map_take, ← h4, List.take_take]
theorem slS_pre {b n k : Nat} (hk : k ≤ n) : slS 1 (.slice b 0 n 1) none (some (.int .i64 (k : Int))) none = some (.slice b 0 k 1) := by
  have : boundsL n n none (some (.int .i64 (k : Int))) none = some (0, k) := by
    simp only [boundsL, toNo, toN, Int.toNat_natCast]
    rw [if_pos ⟨by omega, by omega⟩]
  simp only [slS, this]; simp
theorem lenS_slice {b i n s : Nat} : lenS (.slice b i n s) = some (.int .i64 (n : Int)) := rfl

/-- A path cut back to a node. -/
def popS (u : Int) (path : List Nat) : List Nat := (path.reverse.dropWhile fun p : Nat => decide (¬ (p : Int) = u)).reverse
theorem popS_nil (u : Int) : popS u [] = [] := rfl
theorem popS_snoc (u : Int) (l : List Nat) (p : Nat) : popS u (l ++ [p]) = if (p : Int) = u then l ++ [p] else popS u l := by
  unfold popS
  rw [List.reverse_append]
  simp only [List.reverse_cons, List.reverse_nil, List.nil_append, List.singleton_append, List.dropWhile_cons]
  by_cases h : (p : Int) = u
  · simp [h]
  · simp [h]

section
variable {t : List ND} {tv : AVal}

theorem pop_loop {σ : St} {bp b6 : Nat} {n : ND} {av kv : AVal} (hc : Copy σ b6 n av kv) : ∀ (m : Nat) (path : List Nat) (e : Env) (r : Option (Out × Env × St)), path.length = m → m < 9223372036854775808 → OwnI σ bp path → Ew TS false (.loop L13_2) e σ = r →
    V e 3 = .slice bp 0 path.length 1 → V e 6 = .ptr b6 0 →
    ∃ e', r = some (.exit 2, e', σ) ∧ V e' 3 = .slice bp 0 (popS n.up path).length 1 ∧ (∃ k, popS n.up path = path.take k) ∧ V e' 0 = V e 0 ∧ V e' 4 = V e 4 ∧ V e' 5 = V e 5 ∧ V e' 6 = V e 6 ∧ V e' 35 = V e 35 ∧ V e' 36 = V e 36 ∧ V e' 37 = V e 37
  | 0, path, e, r, hm, hb, ho, hr, h3, h6 => by
    have : path = [] := List.eq_nil_of_length_eq_zero hm
    subst this
    rw [Ew_loop] at hr
    simp only [L13_2, B13_5, sA, reduceIte, Nat.reduceEqDiff, Int.reduceLT, Int.reduceLE, Int.reduceEq, Int.reduceNeg, reduceCtorEq, Nat.reduceAdd, sD, h3, lenS_slice, List.length_nil, Int.natCast_zero, Int.lt_irrefl] at hr
    exact ⟨_, hr.symm, by simp only [sV, Nat.reduceEqDiff, reduceIte, Nat.reduceAdd, h3, popS_nil], ⟨0, rfl⟩, by simp only [sV, Nat.reduceEqDiff, reduceIte, Nat.reduceAdd], by simp only [sV, Nat.reduceEqDiff, reduceIte, Nat.reduceAdd], by simp only [sV, Nat.reduceEqDiff, reduceIte, Nat.reduceAdd], by simp only [sV, Nat.reduceEqDiff, reduceIte, Nat.reduceAdd], by simp only [sV, Nat.reduceEqDiff, reduceIte, Nat.reduceAdd], by simp only [sV, Nat.reduceEqDiff, reduceIte, Nat.reduceAdd], by simp only [sV, Nat.reduceEqDiff, reduceIte, Nat.reduceAdd]⟩
  | m + 1, path, e, r, hm, hb, ho, hr, h3, h6 => by
    obtain ⟨l, p, rfl⟩ : ∃ l p, path = l ++ [p] := by
      rcases List.eq_nil_or_concat path with h | ⟨l, p, h⟩
      · subst h; simp at hm
      · exact ⟨l, p, by simpa using h⟩
    have hll : (l ++ [p]).length = l.length + 1 := by simp
    have hlm : l.length = m := by omega
    rw [popS_snoc]
    obtain ⟨⟨f, ty, hg⟩, -⟩ := id hc
    have hpos : (0 : Int) < ((l.length + 1 : Nat) : Int) := by omega
    have hw : wrapI .i64 (((l.length + 1 : Nat) : Int) - 1) = (l.length : Int) := by rw [wrap_i64 (by omega) (by omega)]; omega
    obtain ⟨g1, g2⟩ := ho.ints.get (i := l.length) (by simp) (k := .i64)
    simp only [List.getElem_map, List.getElem_append_right (Nat.le_refl _), Nat.sub_self, List.getElem_cons_zero, Int.ofNat_eq_natCast] at g2
    rw [hll] at h3 g1 g2
    rw [Ew_loop] at hr
    by_cases hp : (p : Int) = n.up
    · rw [if_pos hp]
      have hp' := eq_true hp
      simp only [L13_2, B13_5, sA, reduceIte, Nat.reduceEqDiff, Int.reduceLT, Int.reduceLE, Int.reduceEq, Int.reduceNeg, reduceCtorEq, Nat.reduceAdd, sD, sM, h3, h6, lenS_slice, hpos, hw, g1, g2, hg, hp'] at hr
      exact ⟨_, hr.symm, by simp only [sV, Nat.reduceEqDiff, reduceIte, Nat.reduceAdd, h3, hll], ⟨l.length + 1, by rw [List.take_of_length_le (by simp)]⟩, by simp only [sV, Nat.reduceEqDiff, reduceIte, Nat.reduceAdd], by simp only [sV, Nat.reduceEqDiff, reduceIte, Nat.reduceAdd], by simp only [sV, Nat.reduceEqDiff, reduceIte, Nat.reduceAdd], by simp only [sV, Nat.reduceEqDiff, reduceIte, Nat.reduceAdd, h6], by simp only [sV, Nat.reduceEqDiff, reduceIte, Nat.reduceAdd], by simp only [sV, Nat.reduceEqDiff, reduceIte, Nat.reduceAdd], by simp only [sV, Nat.reduceEqDiff, reduceIte, Nat.reduceAdd]⟩
    · rw [if_neg hp]
      have hs := slS_pre (b := bp) (show l.length ≤ l.length + 1 by omega)
      simp only [L13_2, B13_5, B13_6, sA, reduceIte, Nat.reduceEqDiff, Int.reduceLT, Int.reduceLE, Int.reduceEq, Int.reduceNeg, reduceCtorEq, Nat.reduceAdd, sD, sM, h3, h6, lenS_slice, hpos, hw, g1, g2, hg, hp, opSlSl_s, Option.map_none, Option.map_some, hs] at hr
      have ho' : OwnI σ bp l := by
        have := ho.take l.length
        rwa [List.take_left'] at this
        rfl
      obtain ⟨e', a1, a2, ⟨k, a3⟩, b0, b4, b5, b6', b35, b36, b37⟩ := pop_loop hc m l _ r hlm (by omega) ho' hr (by simp only [sV, Nat.reduceEqDiff, reduceIte, Nat.reduceAdd]) (by simp only [sV, Nat.reduceEqDiff, reduceIte, Nat.reduceAdd, h6])
      simp only [sV, Nat.reduceEqDiff, reduceIte, Nat.reduceAdd, h6] at b0 b4 b5 b6' b35 b36 b37
      refine ⟨e', a1, a2, ⟨min k l.length, ?_⟩, b0, b4, b5, by rw [b6', h6], b35, b36, b37⟩
      rw [a3, List.take_append_of_le_length (Nat.min_le_right _ _)]
      rcases Nat.le_total k l.length with h | h
      · rw [Nat.min_eq_left h]
      · rw [Nat.min_eq_right h, List.take_of_length_le h, List.take_length]

/-- The second question of a turn: is the node its parent's next child? -/
theorem right_8 {σ : St} {e : Env} {r : Option (Out × Env × St)} {bp b6 bk i : Nat} {n : ND} {av kv : AVal} {p1 cnt : List Nat} (hr : Ew TS false B13_8 e σ = r) (hc : Copy σ b6 n av kv) (ht : TreeI σ tv t) (hk : OwnI σ bk cnt)
    (hlen : cnt.length = t.length) (hu : p1 ≠ [] → ∃ u : Nat, n.up = (u : Int) ∧ u < t.length)
    (h0 : V e 0 = tv) (h3 : V e 3 = .slice bp 0 p1.length 1) (h4 : V e 4 = .slice bk 0 t.length 1) (h5 : V e 5 = .int .i64 (i : Int)) (h6 : V e 6 = .ptr b6 0) :
    ∃ e', r = some (.normal, e', σ) ∧ ((V e' 97 = .bool true ∧ ¬ (p1 ≠ [] ∧ cnt.getD n.up.toNat 0 < (t.getD n.up.toNat ⟨0, [], [], [], 0, []⟩).kids.length ∧ (t.getD n.up.toNat ⟨0, [], [], [], 0, []⟩).kids.getD (cnt.getD n.up.toNat 0) 0 = (i : Int))) ∨
      (V e' 97 = .bool false ∧ (p1 ≠ [] ∧ cnt.getD n.up.toNat 0 < (t.getD n.up.toNat ⟨0, [], [], [], 0, []⟩).kids.length ∧ (t.getD n.up.toNat ⟨0, [], [], [], 0, []⟩).kids.getD (cnt.getD n.up.toNat 0) 0 = (i : Int)))) ∧
      V e' 0 = V e 0 ∧ V e' 3 = V e 3 ∧ V e' 4 = V e 4 ∧ V e' 5 = V e 5 ∧ V e' 6 = V e 6 ∧ V e' 35 = V e 35 ∧ V e' 36 = V e 36 ∧ V e' 37 = V e 37 := by
  obtain ⟨⟨f, ty, hg⟩, -⟩ := id hc
  by_cases hp : p1 = []
  · subst hp
    simp only [B13_8, sA, reduceIte, Nat.reduceEqDiff, Int.reduceLT, Int.reduceLE, Int.reduceEq, Int.reduceNeg, reduceCtorEq, Nat.reduceAdd, sD, sM, h3, lenS_slice, Int.natCast_zero] at hr
    exact ⟨_, hr.symm, .inl ⟨by simp only [sV, Nat.reduceEqDiff, reduceIte, Nat.reduceAdd], fun h => h.1 rfl⟩, by simp only [sV, Nat.reduceEqDiff, reduceIte, Nat.reduceAdd], by simp only [sV, Nat.reduceEqDiff, reduceIte, Nat.reduceAdd, h3, List.length_nil], by simp only [sV, Nat.reduceEqDiff, reduceIte, Nat.reduceAdd], by simp only [sV, Nat.reduceEqDiff, reduceIte, Nat.reduceAdd], by simp only [sV, Nat.reduceEqDiff, reduceIte, Nat.reduceAdd], by simp only [sV, Nat.reduceEqDiff, reduceIte, Nat.reduceAdd], by simp only [sV, Nat.reduceEqDiff, reduceIte, Nat.reduceAdd], by simp only [sV, Nat.reduceEqDiff, reduceIte, Nat.reduceAdd]⟩
  · obtain ⟨u, hu1, hu2⟩ := hu hp
    have hpl : ¬ (p1.length : Int) = 0 := by
      intro h; exact hp (List.eq_nil_of_length_eq_zero (by omega))
    rw [hu1, Int.toNat_natCast]
    rw [hu1] at hg
    have huc : u < cnt.length := by omega
    have hcu : cnt.getD u 0 = cnt[u] := by rw [List.getD_eq_getElem?_getD, List.getElem?_eq_getElem huc, Option.getD_some]
    have htu : t.getD u ⟨0, [], [], [], 0, []⟩ = t[u] := by rw [List.getD_eq_getElem?_getD, List.getElem?_eq_getElem hu2, Option.getD_some]
    rw [hcu, htu]
    obtain ⟨av2, kv2, y1, y2⟩ := ht.get hu2
    have y1 := y1 .i64
    obtain ⟨k1, k2⟩ := hk.ints.get (i := u) (by simpa using huc) (k := .i64)
    simp only [List.getElem_map, Int.ofNat_eq_natCast] at k2
    rw [← hlen] at h4
    have kl := SlI.len y2.kids
    by_cases hb : (t[u].kids.length : Int) ≤ (cnt[u] : Int)
    · have hb' : ¬ cnt[u] < t[u].kids.length := by omega
      simp only [B13_8, sA, reduceIte, Nat.reduceEqDiff, Int.reduceLT, Int.reduceLE, Int.reduceEq, Int.reduceNeg, reduceCtorEq, Nat.reduceAdd, sD, sM, h0, h3, h4, h5, h6, lenS_slice, hpl, hg, k1, k2, y1, y2.f5, y2.l5, kl, hb] at hr
      exact ⟨_, hr.symm, .inl ⟨by simp only [sV, Nat.reduceEqDiff, reduceIte, Nat.reduceAdd], fun h => hb' h.2.1⟩, by simp only [sV, Nat.reduceEqDiff, reduceIte, Nat.reduceAdd, h0], by simp only [sV, Nat.reduceEqDiff, reduceIte, Nat.reduceAdd, h3], by simp only [sV, Nat.reduceEqDiff, reduceIte, Nat.reduceAdd, h4], by simp only [sV, Nat.reduceEqDiff, reduceIte, Nat.reduceAdd, h5], by simp only [sV, Nat.reduceEqDiff, reduceIte, Nat.reduceAdd, h6], by simp only [sV, Nat.reduceEqDiff, reduceIte, Nat.reduceAdd], by simp only [sV, Nat.reduceEqDiff, reduceIte, Nat.reduceAdd], by simp only [sV, Nat.reduceEqDiff, reduceIte, Nat.reduceAdd]⟩
    · have hb' : cnt[u] < t[u].kids.length := by omega
      obtain ⟨m1, m2⟩ := y2.kids.get hb' (k := .i64)
      have hkk : t[u].kids.getD cnt[u] 0 = t[u].kids[cnt[u]] := by rw [List.getD_eq_getElem?_getD, List.getElem?_eq_getElem hb', Option.getD_some]
      rw [hkk]
      by_cases hx : t[u].kids[cnt[u]] = (i : Int)
      · have hx' := eq_true hx
        simp only [B13_8, sA, reduceIte, Nat.reduceEqDiff, Int.reduceLT, Int.reduceLE, Int.reduceEq, Int.reduceNeg, reduceCtorEq, Nat.reduceAdd, sD, sM, h0, h3, h4, h5, h6, lenS_slice, hpl, hg, k1, k2, y1, y2.f5, y2.l5, kl, hb, m1, m2, hx'] at hr
        exact ⟨_, hr.symm, .inr ⟨by simp only [sV, Nat.reduceEqDiff, reduceIte, Nat.reduceAdd], hp, hb', hx⟩, by simp only [sV, Nat.reduceEqDiff, reduceIte, Nat.reduceAdd, h0], by simp only [sV, Nat.reduceEqDiff, reduceIte, Nat.reduceAdd, h3], by simp only [sV, Nat.reduceEqDiff, reduceIte, Nat.reduceAdd, h4], by simp only [sV, Nat.reduceEqDiff, reduceIte, Nat.reduceAdd, h5], by simp only [sV, Nat.reduceEqDiff, reduceIte, Nat.reduceAdd, h6], by simp only [sV, Nat.reduceEqDiff, reduceIte, Nat.reduceAdd], by simp only [sV, Nat.reduceEqDiff, reduceIte, Nat.reduceAdd], by simp only [sV, Nat.reduceEqDiff, reduceIte, Nat.reduceAdd]⟩
      · simp only [B13_8, sA, reduceIte, Nat.reduceEqDiff, Int.reduceLT, Int.reduceLE, Int.reduceEq, Int.reduceNeg, reduceCtorEq, Nat.reduceAdd, sD, sM, h0, h3, h4, h5, h6, lenS_slice, hpl, hg, k1, k2, y1, y2.f5, y2.l5, kl, hb, m1, m2, hx] at hr
        exact ⟨_, hr.symm, .inl ⟨by simp only [sV, Nat.reduceEqDiff, reduceIte, Nat.reduceAdd], fun h => hx h.2.2⟩, by simp only [sV, Nat.reduceEqDiff, reduceIte, Nat.reduceAdd, h0], by simp only [sV, Nat.reduceEqDiff, reduceIte, Nat.reduceAdd, h3], by simp only [sV, Nat.reduceEqDiff, reduceIte, Nat.reduceAdd, h4], by simp only [sV, Nat.reduceEqDiff, reduceIte, Nat.reduceAdd, h5], by simp only [sV, Nat.reduceEqDiff, reduceIte, Nat.reduceAdd, h6], by simp only [sV, Nat.reduceEqDiff, reduceIte, Nat.reduceAdd], by simp only [sV, Nat.reduceEqDiff, reduceIte, Nat.reduceAdd], by simp only [sV, Nat.reduceEqDiff, reduceIte, Nat.reduceAdd]⟩

theorem putX_set : ∀ (l : List AVal) (i : Nat) (v : AVal), i < l.length → putX i l [v] = some (l.set i v)
  | [], _, _, h => by simp at h
  | x :: l, 0, v, _ => by unfold putX; rw [show putX 0 l [] = some l from by cases l <;> rfl]; rfl
  | x :: l, i + 1, v, h => by unfold putX; rw [putX_set l i v (by simpa using h)]; rfl

/-- The parent has one child more. -/
theorem right_9 {σ σ0 : St} {e : Env} {r : Option (Out × Env × St)} {b6 bk u : Nat} {n : ND} {av kv : AVal} {cnt : List Nat} (hr : Ew TS false B13_9 e σ = r) (hc : Copy σ b6 n av kv) (hk : OwnI σ bk cnt) (hu : n.up = (u : Int)) (huc : u < cnt.length) (hcb : cnt[u] + 1 < 9223372036854775808) (h0 : Fr σ0 σ) (hbk : σ0.next ≤ bk)
    (h4 : V e 4 = .slice bk 0 cnt.length 1) (h6 : V e 6 = .ptr b6 0) :
    ∃ e' σ', r = some (.normal, e', σ') ∧ Fr σ0 σ' ∧ σ'.next = σ.next ∧ (∀ b, b ≠ bk → σ'.get b = σ.get b) ∧ OwnI σ' bk (cnt.set u (cnt[u] + 1)) ∧ V e' 0 = V e 0 ∧ V e' 3 = V e 3 ∧ V e' 4 = V e 4 ∧ V e' 5 = V e 5 ∧ V e' 6 = V e 6 ∧ V e' 35 = V e 35 ∧ V e' 36 = V e 36 ∧ V e' 37 = V e 37 := by
  obtain ⟨⟨f, ty, hg⟩, -⟩ := id hc
  rw [hu] at hg
  obtain ⟨k1, k2⟩ := hk.ints.get (i := u) (by simpa using huc) (k := .i64)
  simp only [List.getElem_map, Int.ofNat_eq_natCast] at k2
  have hw : wrapI .i64 ((cnt[u] : Int) + 1) = ((cnt[u] + 1 : Nat) : Int) := by rw [wrap_i64 (by omega) (by omega)]; omega
  obtain ⟨hlt, f2, cs, hg2, hl, htk⟩ := id hk
  have hst : stS σ 1 (ixp 1 (.slice bk 0 cnt.length 1) u) (.int .i64 ((cnt[u] + 1 : Nat) : Int)) = some (σ.put bk (.cells f2 3 (cs.set u (.int .i64 ((cnt[u] + 1 : Nat) : Int))))) := by
    have hp := putX_set cs u (.int .i64 ((cnt[u] + 1 : Nat) : Int)) (by omega)
    simp only [ixp, stS_ptr, hg2, cells_int, Nat.zero_add, Nat.mul_one, lenL_eq, List.length_cons, List.length_nil, allOne, one_int, Bool.and_true, and_self, if_true, hp]
  simp only [B13_9, sA, reduceIte, Nat.reduceEqDiff, Int.reduceLT, Int.reduceLE, Int.reduceEq, Int.reduceNeg, reduceCtorEq, Nat.reduceAdd, opIaSl_s, opLoad_s, opFieldAddr_s, opStore_s, fldA_ptr, ldA_ptr, loadL_none, dropX_zero, dropX_4, Nat.zero_add, Bool.false_eq_true, h4, h6, hg, k1, k2, hw, hst] at hr
  refine ⟨_, _, hr.symm, h0.put hbk _, rfl, fun b hb => St.get_put_other _ _ hb, ?_, by simp only [sV, Nat.reduceEqDiff, reduceIte, Nat.reduceAdd], by simp only [sV, Nat.reduceEqDiff, reduceIte, Nat.reduceAdd], by simp only [sV, Nat.reduceEqDiff, reduceIte, Nat.reduceAdd, h4], by simp only [sV, Nat.reduceEqDiff, reduceIte, Nat.reduceAdd], by simp only [sV, Nat.reduceEqDiff, reduceIte, Nat.reduceAdd, h6], by simp only [sV, Nat.reduceEqDiff, reduceIte, Nat.reduceAdd], by simp only [sV, Nat.reduceEqDiff, reduceIte, Nat.reduceAdd], by simp only [sV, Nat.reduceEqDiff, reduceIte, Nat.reduceAdd]⟩
  refine ⟨hlt, f2, _, St.get_put_same _ _ _, ?_, ?_⟩
  · simp only [List.length_set]; exact hl
  · simp only [List.length_set]
    rw [List.take_set, htk, List.map_set]
end
end Go.Ab.Dirs
end

set_option maxRecDepth 10000
noncomputable section
namespace Go.Ab.Dirs
open Go Go.Ab

def bsS (σ : St) (e : TypeId) (s len : Nat) (z : List AVal) (parts : List (Nat × Nat × AVal)) : Option (AVal × St) :=
  match fillL parts 0 z with
  | some cs => some (.slice σ.next 0 len s, σ.new (.cells true e cs))
  | none => none
theorem opBuildSlice_s {T : Tab} {q : Bool} {e : TypeId} {s len : Nat} {z : List AVal} {parts : List (Nat × Nat × Opd)} {env : Env} {σ : St} : opBuildSlice T q e s len z parts env σ = (if q then none else bsS σ e s len z (parts.map fun p => (p.1, p.2.1, p.2.2.ev T env))) := by
  unfold opBuildSlice bsS
  simp only [St.newK_eq]
  rfl
theorem fillL_int1 {k : IntKind} {n : Int} {z : AVal} : fillL [(0, 1, .int k n)] 0 [z] = some [.int k n] := by
  simp [fillL, cells_int, lenL_eq, takeX_zero, dropX_1]
def apS (σ : St) (e : TypeId) (s bytes : Nat) (x y : AVal) : Option (AVal × St) :=
    (match cellsIn σ s y with
    | some (0, _) => (match x with | .nils => some (.nils, σ) | .slice b i n s' => some (.slice b i n s', σ) | _ => none)
    | some (m + 1, new) =>
      (match x with
      | .nils => if (m + 1) * bytes ≤ 1099511627776 ∧ allOne new = true then some (.slice σ.next 0 (m + 1) s, σ.new (.cells false e new)) else none
      | .slice b i n s' =>
        if s = s' ∧ (n + (m + 1)) * bytes ≤ 1099511627776 ∧ allOne new = true then
          match σ.get b with
          | some (.cells _ e' cs) =>
            if e = e' then
              match sub cs i (n * s) with
              | some old => some (.slice σ.next 0 (n + (m + 1)) s, (σ.kill b).new (.cells false e (old ++ new)))
              | none => none
            else none
          | _ => none
        else none
      | _ => none)
    | none => none)
theorem opAppend_s {T : Tab} {q : Bool} {e : TypeId} {s bytes : Nat} {x y : Opd} {env : Env} {σ : St} : opAppend T q e s bytes x y env σ = (if q then none else apS σ e s bytes (x.ev T env) (y.ev T env)) := by
  unfold opAppend apS
  simp only [St.newK_eq, St.killK_eq]
  rfl

theorem ap_own {σ : St} {b c : Nat} {l : List Nat} {i : Nat} (h : OwnI σ b l) (hc : σ.get c = some (.cells true 3 [.int .i64 (i : Int)])) (hb : l.length < 1000000000) :
    ∃ σ', apS σ 3 1 8 (.slice b 0 l.length 1) (.slice c 0 1 1) = some (.slice σ.next 0 (l ++ [i]).length 1, σ') ∧ σ'.next = σ.next + 1 ∧ (∀ d, d < σ.next → d ≠ b → σ'.get d = σ.get d) ∧ OwnI σ' σ.next (l ++ [i]) ∧ (∀ σ0, Fr σ0 σ → σ0.next ≤ b → Fr σ0 σ') := by
  obtain ⟨h1, f, cs, h2, h3, h4⟩ := h
  have hci : cellsIn σ 1 (.slice c 0 1 1) = some (0 + 1, [.int .i64 (i : Int)]) := by
    simp only [cellsIn, hc, if_true]
    rw [sub_eq.2 ⟨by simp, rfl⟩]; rfl
  have hsub : sub cs 0 (l.length * 1) = some (l.map fun x : Nat => AVal.int .i64 (x : Int)) := by
    rw [sub_eq.2 ⟨by omega, rfl⟩]; simp [h4]
  refine ⟨(σ.kill b).new (.cells false 3 ((l.map fun x : Nat => AVal.int .i64 (x : Int)) ++ [.int .i64 (i : Int)])), ?_, rfl, ?_, ?_, ?_⟩
  · unfold apS
    simp only [hci, h2, hsub, if_true, allOne, one_int, Bool.and_true, and_true, true_and, Nat.zero_add, List.length_append, List.length_cons, List.length_nil]
    rw [if_pos (by omega)]
  · intro d hd hdb
    rw [St.get_new_other _ _ (by rw [St.kill_next]; omega), St.get_kill_other _ hdb]
  · refine ⟨Nat.lt_succ_self _, false, _, by rw [show σ.next = (σ.kill b).next from rfl, St.get_new_same], ?_, ?_⟩
    · simp
    · rw [List.take_of_length_le (by simp)]; simp
  · intro σ0 hf hb
    exact (hf.kill hb).trans (Fr.new _ _)

theorem popS_last (u : Int) (path : List Nat) (h : popS u path ≠ []) : ∃ (l : List Nat) (p : Nat), popS u path = l ++ [p] ∧ (p : Int) = u := by
  have key : ∀ (m : Nat) (path : List Nat), path.length = m → popS u path ≠ [] → ∃ (l : List Nat) (p : Nat), popS u path = l ++ [p] ∧ (p : Int) = u := by
    intro m
    induction m with
    | zero => intro path hm h; rw [List.eq_nil_of_length_eq_zero hm] at h; exact absurd rfl h
    | succ m ih =>
      intro path hm h
      rcases List.eq_nil_or_concat path with hh | ⟨l, p, hh⟩
      · subst hh; simp at hm
      · rw [List.concat_eq_append] at hh
        subst hh
        rw [popS_snoc] at h ⊢
        by_cases hp : (p : Int) = u
        · rw [if_pos hp]; exact ⟨l, p, rfl, hp⟩
        · rw [if_neg hp] at h ⊢
          exact ih l (by simp at hm; omega) h
  exact key _ path rfl h

theorem popS_take (u : Int) (path : List Nat) : ∃ k, popS u path = path.take k := by
  have key : ∀ (m : Nat) (path : List Nat), path.length = m → ∃ k, popS u path = path.take k := by
    intro m
    induction m with
    | zero => intro path hm; rw [List.eq_nil_of_length_eq_zero hm]; exact ⟨0, rfl⟩
    | succ m ih =>
      intro path hm
      rcases List.eq_nil_or_concat path with hh | ⟨l, p, hh⟩
      · subst hh; simp at hm
      · rw [List.concat_eq_append] at hh
        subst hh
        rw [popS_snoc]
        by_cases hp : (p : Int) = u
        · rw [if_pos hp]; exact ⟨l.length + 1, by rw [List.take_of_length_le (by simp)]⟩
        · rw [if_neg hp]
          obtain ⟨k, hk⟩ := ih l (by simp at hm; omega)
          refine ⟨min k l.length, ?_⟩
          rw [hk, List.take_append_of_le_length (Nat.min_le_right _ _)]
          rcases Nat.le_total k l.length with h | h
          · rw [Nat.min_eq_left h]
          · rw [Nat.min_eq_right h, List.take_of_length_le h, List.take_length]
  exact key _ path rfl

theorem idxS_le (x : Int) : ∀ (l : List Int) (k i : Nat), l[k]? = some x → ∃ j, i ≤ j ∧ j ≤ i + k ∧ idxS x l i = ((j : Nat) : Int)
  | [], k, i, h => by simp at h
  | y :: l, 0, i, h => by
    simp at h; subst h
    exact ⟨i, Nat.le_refl _, Nat.le_refl _, by simp [idxS]⟩
  | y :: l, k + 1, i, h => by
    unfold idxS
    by_cases hy : x = y
    · rw [if_pos hy]; exact ⟨i, Nat.le_refl _, by omega, rfl⟩
    · rw [if_neg hy]
      obtain ⟨j, h1, h2, h3⟩ := idxS_le x l k (i + 1) (by simpa using h)
      exact ⟨j, by omega, by omega, h3⟩

abbrev dN : ND := ⟨0, [], [], [], 0, []⟩
/-- One turn. -/
def stepR (t : List ND) (i : Nat) (path cnt : List Nat) : Option (List Nat × List Nat) :=
  if i = 0 then (if fitsS t path i (t.getD i dN) = true then some (path, cnt) else none)
  else
    if popS (t.getD i dN).up path ≠ [] ∧ cnt.getD (t.getD i dN).up.toNat 0 < (t.getD (t.getD i dN).up.toNat dN).kids.length ∧ (t.getD (t.getD i dN).up.toNat dN).kids.getD (cnt.getD (t.getD i dN).up.toNat 0) 0 = (i : Int) then
      if fitsS t (popS (t.getD i dN).up path) i (t.getD i dN) = true then some (popS (t.getD i dN).up path ++ [i], cnt.set (t.getD i dN).up.toNat (cnt.getD (t.getD i dN).up.toNat 0 + 1)) else none
    else none
def rightG (t : List ND) : Nat → Nat → List Nat → List Nat → Option (List Nat)
  | 0, _, _, cnt => some cnt
  | m + 1, i, path, cnt => match stepR t i path cnt with | some pc => rightG t m (i + 1) pc.1 pc.2 | none => none

/-- What holds from turn to turn. -/
structure InvR (t : List ND) (i : Nat) (path cnt : List Nat) : Prop where
  pos : 0 < path.length
  mem : ∀ p ∈ path, p < t.length
  len : path.length ≤ i + 1
  clen : cnt.length = t.length
  cnt : ∀ u, u < t.length → cnt.getD u 0 ≤ (t.getD u dN).kids.length ∧ ∀ j, j < cnt.getD u 0 → ∃ z : Nat, (t.getD u dN).kids.getD j 0 = (z : Int) ∧ z < t.length

theorem getD_at {α : Type} {l : List α} {i : Nat} (h : i < l.length) (d : α) : l.getD i d = l[i] := by
  rw [List.getD_eq_getElem?_getD, List.getElem?_eq_getElem h, Option.getD_some]

theorem InvR.step {t : List ND} {i : Nat} {path cnt : List Nat} (h : InvR t i path cnt) (hi : i < t.length) {p c : List Nat} (hs : stepR t i path cnt = some (p, c)) : InvR t (i + 1) p c := by
  unfold stepR at hs
  split at hs
  · split at hs
    · cases hs; exact ⟨h.pos, h.mem, Nat.le_succ_of_le h.len, h.clen, h.cnt⟩
    · simp at hs
  · split at hs
    · rename_i h0 hc
      split at hs
      · cases hs
        obtain ⟨c1, c2, c3⟩ := hc
        obtain ⟨l, q, e1, e2⟩ := popS_last _ _ c1
        have hsub := popS_take (t.getD i dN).up path
        obtain ⟨k, hk⟩ := hsub
        have hu : (t.getD i dN).up.toNat < t.length := by
          have : q ∈ path := by
            have : q ∈ popS (t.getD i dN).up path := by rw [e1]; simp
            rw [hk] at this; exact List.mem_of_mem_take this
          have := h.mem q this
          omega
        refine ⟨by simp, ?_, ?_, by simp [h.clen], ?_⟩
        · intro p hp
          rw [List.mem_append] at hp
          rcases hp with hp | hp
          · rw [hk] at hp; exact h.mem p (List.mem_of_mem_take hp)
          · simp at hp; omega
        · rw [hk]; have := h.len; simp; omega
        · intro u hu'
          by_cases e : u = (t.getD i dN).up.toNat
          · subst e
            have hg : (cnt.set (t.getD i dN).up.toNat (cnt.getD (t.getD i dN).up.toNat 0 + 1)).getD (t.getD i dN).up.toNat 0 = cnt.getD (t.getD i dN).up.toNat 0 + 1 := by
              rw [List.getD_eq_getElem?_getD, List.getElem?_set_self (by rw [h.clen]; exact hu)]; rfl
            rw [hg]
            refine ⟨by omega, ?_⟩
            intro j hj
            by_cases ej : j = cnt.getD (t.getD i dN).up.toNat 0
            · subst ej; exact ⟨i, c3, hi⟩
            · exact (h.cnt _ hu).2 j (by omega)
          · have hg : (cnt.set (t.getD i dN).up.toNat (cnt.getD (t.getD i dN).up.toNat 0 + 1)).getD u 0 = cnt.getD u 0 := by
              rw [List.getD_eq_getElem?_getD, List.getElem?_set_ne (Ne.symm e), ← List.getD_eq_getElem?_getD]
            rw [hg]; exact h.cnt u hu'
      · simp at hs
    · simp at hs
end Go.Ab.Dirs
end
