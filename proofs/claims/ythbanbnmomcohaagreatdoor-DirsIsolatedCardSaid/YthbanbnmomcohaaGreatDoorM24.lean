/- selvedgeref01.Class. -/
import Derived.Test.YthbanbnmomcohaaGreatDoorM23
import Derived.Test.YthbanbnmomcohaaGreatDoorM19
import Derived.Test.YthbanbnmomcohaaGreatDoorM20
set_option linter.all false
set_option linter.unusedSimpArgs false
set_option maxRecDepth 100000
noncomputable section
namespace Go.Ab.Dirs
open Go Go.Ab

def ops71 : List AOper := match af71.body with | .seq _ (.seq (.region _ b) _) => b | _ => []
def mid71 : List AOper := ops71.take 146
def bs71 : AOp := match ops71.drop 146 with | ⟨_, op, _, _⟩ :: _ => op | _ => .mov (.c .nils)
theorem body71 : af71.body = .seq (.region false [⟨some (path 0), .mov (.c .nils), none, .pure⟩]) (.seq (.region false (mid71 ++ [⟨some (path 147), bs71, none, .pure⟩, ⟨some (path 0), .mov (.t (path 147)), none, .pure⟩])) .ret) := by kernel_rfl
theorem fn71 : TS.fn.get (path 71) = some ⟨0, [.tmp (path 0)], af71.body⟩ := by kernel_rfl
def env71 : Env := match runOps TS (fun _ _ _ _ => none) false mid71 (U .emp 0 .nils) st0 with | some r => r.1 | none => .emp
theorem run71 (cf : CF) (σ : St) : runOps TS cf false mid71 (U .emp 0 .nils) σ = some (env71, σ) := by kernel_rfl
def parts71 : List (Nat × Nat × Opd) := match bs71 with | .buildSlice _ _ _ _ p => p | _ => []
def z71 : List AVal := match bs71 with | .buildSlice _ _ _ z _ => z | _ => []
theorem bs71_eq : bs71 = .buildSlice 109 3 146 z71 parts71 := by kernel_rfl
theorem fill71 : fillL (parts71.map fun p => (p.1, p.2.1, p.2.2.ev TS env71)) 0 z71 = some spansC := by kernel_rfl

theorem ranges_ok (σ : St) : Cw TS false 71 [] σ = some (.slice σ.next 0 146 3, σ.new (.cells true 109 spansC)) := by
  rw [Cw_of fn71 false _ σ rfl]
  simp only [body71, Ew_seq, Ew_region, Ew_ret, runOps_cons, runOps_nil, wanted_none, stepOp, opMov, ev_c, setDst_some, envOf_nil]
  rw [runOps_append, run71]
  simp only [runOps_cons, runOps_nil, wanted_none, bs71_eq, stepOp, opBuildSlice_s, Bool.false_eq_true, if_false, bsS, fill71, setDst_some, opMov, ev_t, V_U_same, fin_ret, resV_1]

def refG (r : Int) : List (Int × Int × Int) → Int
  | [] => 1
  | (a, b, c) :: l => if a ≤ r ∧ r ≤ b then c else refG r l
/-- The document's class of a character. -/
def refClassS (r : Int) : Int := if (65 ≤ r ∧ r ≤ 90) ∨ (97 ≤ r ∧ r ≤ 122) then 1 else refG r spansL

def rising : List (Int × Int × Int) → Bool
  | [] => true
  | (a, _, _) :: l => l.all (fun y => decide (a < y.1)) && rising l
theorem refG_low {r a : Int} (h : r < a) : ∀ {l : List (Int × Int × Int)}, (∀ y ∈ l, a < y.1) → refG r l = 1
  | [], _ => rfl
  | (x, y, z) :: l, hl => by
    have := hl (x, y, z) (List.mem_cons_self)
    unfold refG
    rw [if_neg (by simp only at this; omega)]
    exact refG_low h fun w hw => hl w (List.mem_cons_of_mem _ hw)
theorem refG_eq (r : Int) : ∀ {l : List (Int × Int × Int)}, rising l = true → refG r l = classG r l
  | [], _ => rfl
  | (a, b, c) :: l, h => by
    simp only [rising, Bool.and_eq_true, List.all_eq_true, decide_eq_true_eq] at h
    unfold refG classG
    by_cases h1 : r < a
    · rw [if_neg (by omega), if_pos h1]
      exact refG_low h1 h.1
    · rw [if_neg h1]
      by_cases h2 : r ≤ b
      · rw [if_pos ⟨by omega, h2⟩, if_pos h2]
      · rw [if_neg (by omega), if_neg h2]
        exact refG_eq r h.2
theorem spans_rising : rising spansL = true := by decide +kernel
theorem letters1 : ∀ k : Nat, k < 26 → classG ((k : Int) + 65) spansL = 1 := by decide +kernel
theorem letters2 : ∀ k : Nat, k < 26 → classG ((k : Int) + 97) spansL = 1 := by decide +kernel
/-- The two classes are one. -/
theorem refClassS_eq (r : Int) : refClassS r = classS r := by
  unfold refClassS classS
  by_cases h : (65 ≤ r ∧ r ≤ 90) ∨ (97 ≤ r ∧ r ≤ 122)
  · rw [if_pos h]
    rcases h with h | h
    · have := letters1 (r - 65).toNat (by omega)
      rw [show (((r - 65).toNat : Nat) : Int) + 65 = r by omega] at this
      exact this.symm
    · have := letters2 (r - 97).toNat (by omega)
      rw [show (((r - 97).toNat : Nat) : Int) + 97 = r by omega] at this
      exact this.symm
  · rw [if_neg h]
    exact refG_eq r spans_rising

theorem spanI {σ : St} {b : Nat} {f : Bool} {e : TypeId} (hb : b < σ.next) (hg : σ.get b = some (.cells f e spansC)) {i : Nat} (hi : i < 146) :
    ixS 3 (.slice b 0 146 3) (.int .i64 (i : Int)) = some (ixp 3 (.slice b 0 146 3) i) ∧ fldA 0 (ixp 3 (.slice b 0 146 3) i) = some (fp 0 (ixp 3 (.slice b 0 146 3) i)) ∧ fldA 1 (ixp 3 (.slice b 0 146 3) i) = some (fp 1 (ixp 3 (.slice b 0 146 3) i)) ∧ fldA 2 (ixp 3 (.slice b 0 146 3) i) = some (fp 2 (ixp 3 (.slice b 0 146 3) i)) ∧
    ldA σ none (fp 0 (ixp 3 (.slice b 0 146 3) i)) = some (.int .i32 (spansL[i]'(by rw [spansL_len]; exact hi)).1) ∧ ldA σ none (fp 1 (ixp 3 (.slice b 0 146 3) i)) = some (.int .i32 (spansL[i]'(by rw [spansL_len]; exact hi)).2.1) ∧ ldA σ none (fp 2 (ixp 3 (.slice b 0 146 3) i)) = some (.int .u8 (spansL[i]'(by rw [spansL_len]; exact hi)).2.2) := by
  have hl := spansL_len
  have hS : SlI σ 3 (.slice b 0 146 3) 146 spansC := by
    refine ⟨hb, ?_⟩
    simp only [cellsIn, hg, if_true]
    rw [sub_eq.2 ⟨by rw [spansC_len]; omega, rfl⟩, List.drop_zero, List.take_of_length_le (by rw [spansC_len]; omega)]
  obtain ⟨h1, h2⟩ := hS.ix hi (k := .i64)
  rw [spansC_eq, drop_flatMap (f := spanC) (s := 3) (fun _ => rfl), List.drop_eq_getElem_cons (by omega), List.flatMap_cons] at h2
  have e : spanC (spansL[i]'(by omega)) ++ (spansL.drop (i + 1)).flatMap spanC = .int .i32 (spansL[i]'(by omega)).1 :: .int .i32 (spansL[i]'(by omega)).2.1 :: .int .u8 (spansL[i]'(by omega)).2.2 :: (spansL.drop (i + 1)).flatMap spanC := rfl
  rw [e] at h2
  have g0 := h2.fld (off := 0) (by simp)
  have g1 := h2.fld (off := 1) (by simp)
  have g2 := h2.fld (off := 2) (by simp)
  exact ⟨h1, g0.1, g1.1, g2.1, g0.2.ld, g1.2.ld, g2.2.ld⟩

theorem rclass_loop (c : Int) {σ : St} {b : Nat} {f : Bool} {ty : TypeId} (hb : b < σ.next) (hg : σ.get b = some (.cells f ty spansC)) : ∀ (m i : Nat) (env : Env) (r : Option (Out × Env × St)), Ew TS false (.loop L52_1) env σ = r → i + m = 146 →
    V env 0 = .int .i32 c → V env 3 = .slice b 0 146 3 → V env 4 = .int .i64 i →
    ∃ e, ((refG c (spansL.drop i) = 1 ∧ r = some (.exit 0, e, σ)) ∨ (r = some (.ret, e, σ) ∧ V e 2 = .int .u8 (refG c (spansL.drop i))))
  | 0, i, env, r, hr, hi, h0, h3, h4 => by
    have hlt : ¬ ((i : Int) < ((146 : Nat) : Int)) := by omega
    rw [Ew_loop] at hr
    simp only [L52_1, sA, reduceIte, Nat.reduceEqDiff, Int.reduceLT, Int.reduceLE, Int.reduceEq, Int.reduceNeg, reduceCtorEq, Nat.reduceAdd, h0, h3, h4, lenS_slice, hlt] at hr
    refine ⟨_, .inl ⟨?_, hr.symm⟩⟩
    rw [List.drop_eq_nil_of_le (by rw [spansL_len]; omega)]; rfl
  | m + 1, i, env, r, hr, hi, h0, h3, h4 => by
    have hl := spansL_len
    have hlt : ((i : Int) < ((146 : Nat) : Int)) := by omega
    have hw : wrapI .i64 ((i : Int) + 1) = ((i + 1 : Nat) : Int) := by rw [wrap_i64 (by omega) (by omega)]; omega
    obtain ⟨x1, f0, f1, f2, l0, l1, l2⟩ := spanI hb hg (i := i) (by omega)
    rw [List.drop_eq_getElem_cons (by omega)]
    obtain ⟨⟨a, b', k⟩, hx⟩ : ∃ x, spansL[i]'(by omega) = x := ⟨_, rfl⟩
    rw [hx] at l0 l1 l2 ⊢
    simp only [refG]
    simp only at l0 l1 l2
    rw [Ew_loop] at hr
    by_cases c1 : a ≤ c
    · by_cases c2 : c ≤ b'
      · rw [if_pos ⟨c1, c2⟩]
        simp only [L52_1, sA, reduceIte, Nat.reduceEqDiff, Int.reduceLT, Int.reduceLE, Int.reduceEq, Int.reduceNeg, reduceCtorEq, Nat.reduceAdd, opIaSl_s, opFieldAddr_s, opLoad_s, h0, h3, h4, lenS_slice, hlt, x1, f0, f1, f2, l0, l1, l2, c1, c2] at hr
        exact ⟨_, .inr ⟨hr.symm, by simp only [sV, Nat.reduceEqDiff, reduceIte, Nat.reduceAdd]⟩⟩
      · rw [if_neg (fun h => c2 h.2)]
        simp only [L52_1, sA, reduceIte, Nat.reduceEqDiff, Int.reduceLT, Int.reduceLE, Int.reduceEq, Int.reduceNeg, reduceCtorEq, Nat.reduceAdd, opIaSl_s, opFieldAddr_s, opLoad_s, h0, h3, h4, lenS_slice, hlt, x1, f0, f1, f2, l0, l1, l2, c1, c2, hw] at hr
        exact rclass_loop c hb hg m (i + 1) _ r hr (by omega) (by simp only [sV, Nat.reduceEqDiff, reduceIte, Nat.reduceAdd, h0]) (by simp only [sV, Nat.reduceEqDiff, reduceIte, Nat.reduceAdd, h3]) (by simp only [sV, Nat.reduceEqDiff, reduceIte, Nat.reduceAdd])
    · rw [if_neg (fun h => c1 h.1)]
      simp only [L52_1, sA, reduceIte, Nat.reduceEqDiff, Int.reduceLT, Int.reduceLE, Int.reduceEq, Int.reduceNeg, reduceCtorEq, Nat.reduceAdd, opIaSl_s, opFieldAddr_s, opLoad_s, h0, h3, h4, lenS_slice, hlt, x1, f0, f1, f2, l0, l1, l2, c1, hw] at hr
      exact rclass_loop c hb hg m (i + 1) _ r hr (by omega) (by simp only [sV, Nat.reduceEqDiff, reduceIte, Nat.reduceAdd, h0]) (by simp only [sV, Nat.reduceEqDiff, reduceIte, Nat.reduceAdd, h3]) (by simp only [sV, Nat.reduceEqDiff, reduceIte, Nat.reduceAdd])

theorem RefClass_ok (c : Int) (σ : St) : ∃ σ', Fr σ σ' ∧ Cw TS false 52 [.int .i32 c] σ = some (.int .u8 (refClassS c), σ') := by
  have hR := ranges_ok σ
  rw [Cw_of fn52 false _ σ rfl]
  by_cases a1 : (65 : Int) ≤ c
  · by_cases a2 : c ≤ 90
    · have : refClassS c = 1 := by unfold refClassS; rw [if_pos (.inl ⟨a1, a2⟩)]
      simp only [c52, sA, reduceIte, Nat.reduceEqDiff, Int.reduceLT, Int.reduceLE, Int.reduceEq, Int.reduceNeg, reduceCtorEq, Nat.reduceAdd, a1, a2, this]
      exact ⟨_, Fr.refl _, rfl⟩
    · by_cases a3 : (97 : Int) ≤ c
      · by_cases a4 : c ≤ 122
        · have : refClassS c = 1 := by unfold refClassS; rw [if_pos (.inr ⟨a3, a4⟩)]
          simp only [c52, sA, reduceIte, Nat.reduceEqDiff, Int.reduceLT, Int.reduceLE, Int.reduceEq, Int.reduceNeg, reduceCtorEq, Nat.reduceAdd, a1, a2, a3, a4, this]
          exact ⟨_, Fr.refl _, rfl⟩
        · have he : refClassS c = refG c spansL := by unfold refClassS; rw [if_neg (by omega)]
          simp only [c52, sA, reduceIte, Nat.reduceEqDiff, Int.reduceLT, Int.reduceLE, Int.reduceEq, Int.reduceNeg, reduceCtorEq, Nat.reduceAdd, a1, a2, a3, a4, opCall, argsOf, hR]
          generalize hr : Ew TS false (.loop L52_1) _ _ = r
          obtain ⟨e, ⟨h1, rfl⟩ | ⟨rfl, h3⟩⟩ := rclass_loop c (Nat.lt_succ_self _) (St.get_new_same _ _) 146 0 _ r hr (by omega) (by simp only [sV, Nat.reduceEqDiff, reduceIte, Nat.reduceAdd]) (by simp only [sV, Nat.reduceEqDiff, reduceIte, Nat.reduceAdd]) (by simp only [sV, Nat.reduceEqDiff, reduceIte, Nat.reduceAdd]; rfl)
          · have h1 : refG c spansL = 1 := h1
            simp only [sA, reduceIte, Nat.reduceEqDiff, Int.reduceLT, Int.reduceLE, Int.reduceEq, Int.reduceNeg, reduceCtorEq, Nat.reduceAdd, he, h1]
            exact ⟨_, Fr.new _ _, rfl⟩
          · have h3 : V e 2 = .int .u8 (refG c spansL) := h3
            simp only [sA, reduceIte, Nat.reduceEqDiff, Int.reduceLT, Int.reduceLE, Int.reduceEq, Int.reduceNeg, reduceCtorEq, Nat.reduceAdd, he, h3]
            exact ⟨_, Fr.new _ _, rfl⟩
      · have he : refClassS c = refG c spansL := by unfold refClassS; rw [if_neg (by omega)]
        simp only [c52, sA, reduceIte, Nat.reduceEqDiff, Int.reduceLT, Int.reduceLE, Int.reduceEq, Int.reduceNeg, reduceCtorEq, Nat.reduceAdd, a1, a2, a3, opCall, argsOf, hR]
        generalize hr : Ew TS false (.loop L52_1) _ _ = r
        obtain ⟨e, ⟨h1, rfl⟩ | ⟨rfl, h3⟩⟩ := rclass_loop c (Nat.lt_succ_self _) (St.get_new_same _ _) 146 0 _ r hr (by omega) (by simp only [sV, Nat.reduceEqDiff, reduceIte, Nat.reduceAdd]) (by simp only [sV, Nat.reduceEqDiff, reduceIte, Nat.reduceAdd]) (by simp only [sV, Nat.reduceEqDiff, reduceIte, Nat.reduceAdd]; rfl)
        · have h1 : refG c spansL = 1 := h1
          simp only [sA, reduceIte, Nat.reduceEqDiff, Int.reduceLT, Int.reduceLE, Int.reduceEq, Int.reduceNeg, reduceCtorEq, Nat.reduceAdd, he, h1]
          exact ⟨_, Fr.new _ _, rfl⟩
        · have h3 : V e 2 = .int .u8 (refG c spansL) := h3
          simp only [sA, reduceIte, Nat.reduceEqDiff, Int.reduceLT, Int.reduceLE, Int.reduceEq, Int.reduceNeg, reduceCtorEq, Nat.reduceAdd, he, h3]
          exact ⟨_, Fr.new _ _, rfl⟩
  · have a3 : ¬ (97 : Int) ≤ c := by omega
    have he : refClassS c = refG c spansL := by unfold refClassS; rw [if_neg (by omega)]
    simp only [c52, sA, reduceIte, Nat.reduceEqDiff, Int.reduceLT, Int.reduceLE, Int.reduceEq, Int.reduceNeg, reduceCtorEq, Nat.reduceAdd, a1, a3, opCall, argsOf, hR]
    generalize hr : Ew TS false (.loop L52_1) _ _ = r
    obtain ⟨e, ⟨h1, rfl⟩ | ⟨rfl, h3⟩⟩ := rclass_loop c (Nat.lt_succ_self _) (St.get_new_same _ _) 146 0 _ r hr (by omega) (by simp only [sV, Nat.reduceEqDiff, reduceIte, Nat.reduceAdd]) (by simp only [sV, Nat.reduceEqDiff, reduceIte, Nat.reduceAdd]) (by simp only [sV, Nat.reduceEqDiff, reduceIte, Nat.reduceAdd]; rfl)
    · have h1 : refG c spansL = 1 := h1
      simp only [sA, reduceIte, Nat.reduceEqDiff, Int.reduceLT, Int.reduceLE, Int.reduceEq, Int.reduceNeg, reduceCtorEq, Nat.reduceAdd, he, h1]
      exact ⟨_, Fr.new _ _, rfl⟩
    · have h3 : V e 2 = .int .u8 (refG c spansL) := h3
      simp only [sA, reduceIte, Nat.reduceEqDiff, Int.reduceLT, Int.reduceLE, Int.reduceEq, Int.reduceNeg, reduceCtorEq, Nat.reduceAdd, he, h3]
      exact ⟨_, Fr.new _ _, rfl⟩
end Go.Ab.Dirs
end

set_option maxRecDepth 100000
noncomputable section
namespace Go.Ab.Dirs
open Go Go.Ab

def sizeS (b : Nat) : Nat := if b < 128 then 1 else if 194 ≤ b ∧ b ≤ 223 then 2 else if 224 ≤ b ∧ b ≤ 239 then 3 else if 240 ≤ b ∧ b ≤ 244 then 4 else 0
theorem size_ok (b : Nat) (σ : St) : Cw TS false 53 [.int .u8 (b : Int)] σ = some (.int .i64 (sizeS b : Int), σ) := by
  rw [Cw_of fn53 false _ σ rfl]
  by_cases a1 : (b : Int) < 128
  · have : sizeS b = 1 := by unfold sizeS; rw [if_pos (by omega)]
    simp only [c53, sA, reduceIte, Nat.reduceEqDiff, Int.reduceLT, Int.reduceLE, Int.reduceEq, Int.reduceNeg, reduceCtorEq, Nat.reduceAdd, a1, this]; rfl
  by_cases a2 : (194 : Int) ≤ b
  · by_cases a3 : (b : Int) ≤ 223
    · have : sizeS b = 2 := by unfold sizeS; rw [if_neg (by omega), if_pos (by omega)]
      simp only [c53, sA, reduceIte, Nat.reduceEqDiff, Int.reduceLT, Int.reduceLE, Int.reduceEq, Int.reduceNeg, reduceCtorEq, Nat.reduceAdd, a1, a2, a3, this]; rfl
    by_cases a4 : (b : Int) ≤ 239
    · have a5 : (224 : Int) ≤ b := by omega
      have : sizeS b = 3 := by unfold sizeS; rw [if_neg (by omega), if_neg (by omega), if_pos (by omega)]
      simp only [c53, sA, reduceIte, Nat.reduceEqDiff, Int.reduceLT, Int.reduceLE, Int.reduceEq, Int.reduceNeg, reduceCtorEq, Nat.reduceAdd, a1, a2, a3, a4, a5, this]; rfl
    have a5 : (224 : Int) ≤ b := by omega
    have a6 : (240 : Int) ≤ b := by omega
    by_cases a7 : (b : Int) ≤ 244
    · have : sizeS b = 4 := by unfold sizeS; rw [if_neg (by omega), if_neg (by omega), if_neg (by omega), if_pos (by omega)]
      simp only [c53, sA, reduceIte, Nat.reduceEqDiff, Int.reduceLT, Int.reduceLE, Int.reduceEq, Int.reduceNeg, reduceCtorEq, Nat.reduceAdd, a1, a2, a3, a4, a5, a6, a7, this]; rfl
    have : sizeS b = 0 := by unfold sizeS; rw [if_neg (by omega), if_neg (by omega), if_neg (by omega), if_neg (by omega)]
    simp only [c53, sA, reduceIte, Nat.reduceEqDiff, Int.reduceLT, Int.reduceLE, Int.reduceEq, Int.reduceNeg, reduceCtorEq, Nat.reduceAdd, a1, a2, a3, a4, a5, a6, a7, this]; rfl
  · have a5 : ¬ (224 : Int) ≤ b := by omega
    have a6 : ¬ (240 : Int) ≤ b := by omega
    have : sizeS b = 0 := by unfold sizeS; rw [if_neg (by omega), if_neg (by omega), if_neg (by omega), if_neg (by omega)]
    simp only [c53, sA, reduceIte, Nat.reduceEqDiff, Int.reduceLT, Int.reduceLE, Int.reduceEq, Int.reduceNeg, reduceCtorEq, Nat.reduceAdd, a1, a2, a5, a6, this]; rfl

def secS (a b : Nat) : Bool :=
  if a = 224 then decide (160 ≤ b) && decide (b ≤ 191) else if a = 237 then decide (128 ≤ b) && decide (b ≤ 159)
  else if a = 240 then decide (144 ≤ b) && decide (b ≤ 191) else if a = 244 then decide (128 ≤ b) && decide (b ≤ 143) else decide (128 ≤ b) && decide (b ≤ 191)
theorem dec_cast (a b : Nat) : decide ((a : Int) ≤ (b : Int)) = decide (a ≤ b) := by simp
theorem second_ok (q : Bool) (a b : Nat) (σ : St) : Cw TS q 54 [.int .u8 (a : Int), .int .u8 (b : Int)] σ = some (.bool (secS a b), σ) := by
  rw [Cw_of fn54 q _ σ rfl]
  have L : ∀ n : Nat, ((n : Int) ≤ (b : Int)) = (n ≤ b) := fun n => propext Int.ofNat_le
  have U : ∀ n : Nat, ((b : Int) ≤ (n : Int)) = (b ≤ n) := fun n => propext Int.ofNat_le
  have L128 : ((128 : Int) ≤ (b : Int)) = (128 ≤ b) := L 128
  have L144 : ((144 : Int) ≤ (b : Int)) = (144 ≤ b) := L 144
  have L160 : ((160 : Int) ≤ (b : Int)) = (160 ≤ b) := L 160
  have U143 : ((b : Int) ≤ 143) = (b ≤ 143) := U 143
  have U159 : ((b : Int) ≤ 159) = (b ≤ 159) := U 159
  have U191 : ((b : Int) ≤ 191) = (b ≤ 191) := U 191
  have fin : ∀ (lo hi : Nat) (r : Bool), r = (decide (lo ≤ b) && decide (b ≤ hi)) → (lo ≤ b ∧ b ≤ hi ∧ r = true) ∨ (lo ≤ b ∧ ¬ b ≤ hi ∧ r = false) ∨ (¬ lo ≤ b ∧ r = false) := by
    intro lo hi r hr
    by_cases h1 : lo ≤ b <;> by_cases h2 : b ≤ hi <;> simp [h1, h2] at hr <;> simp [h1, h2, hr]
  by_cases e1 : (a : Int) = 224
  · have e1' := eq_true e1
    rcases fin 160 191 (secS a b) (by unfold secS; rw [if_pos (by omega)]) with ⟨h1, h2, h3⟩ | ⟨h1, h2, h3⟩ | ⟨h1, h3⟩
    · simp only [c54, sA, reduceIte, Nat.reduceEqDiff, Int.reduceLT, Int.reduceLE, Int.reduceEq, Int.reduceNeg, reduceCtorEq, Nat.reduceAdd, L160, U191, e1', h1, h2, h3]
    · simp only [c54, sA, reduceIte, Nat.reduceEqDiff, Int.reduceLT, Int.reduceLE, Int.reduceEq, Int.reduceNeg, reduceCtorEq, Nat.reduceAdd, L160, U191, e1', h1, h2, h3]
    · simp only [c54, sA, reduceIte, Nat.reduceEqDiff, Int.reduceLT, Int.reduceLE, Int.reduceEq, Int.reduceNeg, reduceCtorEq, Nat.reduceAdd, L160, U191, e1', h1, h3]
  by_cases e2 : (a : Int) = 237
  · have e2' := eq_true e2
    rcases fin 128 159 (secS a b) (by unfold secS; rw [if_neg (by omega), if_pos (by omega)]) with ⟨h1, h2, h3⟩ | ⟨h1, h2, h3⟩ | ⟨h1, h3⟩
    · simp only [c54, sA, reduceIte, Nat.reduceEqDiff, Int.reduceLT, Int.reduceLE, Int.reduceEq, Int.reduceNeg, reduceCtorEq, Nat.reduceAdd, L128, U159, e1, e2', h1, h2, h3]
    · simp only [c54, sA, reduceIte, Nat.reduceEqDiff, Int.reduceLT, Int.reduceLE, Int.reduceEq, Int.reduceNeg, reduceCtorEq, Nat.reduceAdd, L128, U159, e1, e2', h1, h2, h3]
    · simp only [c54, sA, reduceIte, Nat.reduceEqDiff, Int.reduceLT, Int.reduceLE, Int.reduceEq, Int.reduceNeg, reduceCtorEq, Nat.reduceAdd, L128, U159, e1, e2', h1, h3]
  by_cases e3 : (a : Int) = 240
  · have e3' := eq_true e3
    rcases fin 144 191 (secS a b) (by unfold secS; rw [if_neg (by omega), if_neg (by omega), if_pos (by omega)]) with ⟨h1, h2, h3⟩ | ⟨h1, h2, h3⟩ | ⟨h1, h3⟩
    · simp only [c54, sA, reduceIte, Nat.reduceEqDiff, Int.reduceLT, Int.reduceLE, Int.reduceEq, Int.reduceNeg, reduceCtorEq, Nat.reduceAdd, L144, U191, e1, e2, e3', h1, h2, h3]
    · simp only [c54, sA, reduceIte, Nat.reduceEqDiff, Int.reduceLT, Int.reduceLE, Int.reduceEq, Int.reduceNeg, reduceCtorEq, Nat.reduceAdd, L144, U191, e1, e2, e3', h1, h2, h3]
    · simp only [c54, sA, reduceIte, Nat.reduceEqDiff, Int.reduceLT, Int.reduceLE, Int.reduceEq, Int.reduceNeg, reduceCtorEq, Nat.reduceAdd, L144, U191, e1, e2, e3', h1, h3]
  by_cases e4 : (a : Int) = 244
  · have e4' := eq_true e4
    rcases fin 128 143 (secS a b) (by unfold secS; rw [if_neg (by omega), if_neg (by omega), if_neg (by omega), if_pos (by omega)]) with ⟨h1, h2, h3⟩ | ⟨h1, h2, h3⟩ | ⟨h1, h3⟩
    · simp only [c54, sA, reduceIte, Nat.reduceEqDiff, Int.reduceLT, Int.reduceLE, Int.reduceEq, Int.reduceNeg, reduceCtorEq, Nat.reduceAdd, L128, U143, e1, e2, e3, e4', h1, h2, h3]
    · simp only [c54, sA, reduceIte, Nat.reduceEqDiff, Int.reduceLT, Int.reduceLE, Int.reduceEq, Int.reduceNeg, reduceCtorEq, Nat.reduceAdd, L128, U143, e1, e2, e3, e4', h1, h2, h3]
    · simp only [c54, sA, reduceIte, Nat.reduceEqDiff, Int.reduceLT, Int.reduceLE, Int.reduceEq, Int.reduceNeg, reduceCtorEq, Nat.reduceAdd, L128, U143, e1, e2, e3, e4', h1, h3]
  rcases fin 128 191 (secS a b) (by unfold secS; rw [if_neg (by omega), if_neg (by omega), if_neg (by omega), if_neg (by omega)]) with ⟨h1, h2, h3⟩ | ⟨h1, h2, h3⟩ | ⟨h1, h3⟩
  · simp only [c54, sA, reduceIte, Nat.reduceEqDiff, Int.reduceLT, Int.reduceLE, Int.reduceEq, Int.reduceNeg, reduceCtorEq, Nat.reduceAdd, L128, U191, e1, e2, e3, e4, h1, h2, h3]
  · simp only [c54, sA, reduceIte, Nat.reduceEqDiff, Int.reduceLT, Int.reduceLE, Int.reduceEq, Int.reduceNeg, reduceCtorEq, Nat.reduceAdd, L128, U191, e1, e2, e3, e4, h1, h2, h3]
  · simp only [c54, sA, reduceIte, Nat.reduceEqDiff, Int.reduceLT, Int.reduceLE, Int.reduceEq, Int.reduceNeg, reduceCtorEq, Nat.reduceAdd, L128, U191, e1, e2, e3, e4, h1, h3]

/-! Words with blanks between. -/
def noBl (c : Nat) : Bool := decide (c ≠ 32)
def splitG : Nat → List Nat → List (List Nat)
  | 0, _ => []
  | m + 1, l => if l = [] then [] else l.takeWhile noBl :: splitG m (l.drop ((l.takeWhile noBl).length + 1))

def sSl (v : AVal) (lo hi : AVal) : Option AVal := match v with
  | .str s => (match boundsL s.length s.length (some lo) (some hi) none with
    | some (l, h) => (match sub s l (h - l) with | some r => some (.str r) | none => none)
    | none => none)
  | _ => none
theorem opSlStr_both {T : Tab} {x lo hi : Opd} {env : Env} {σ : St} : opSlStr T x (some lo) (some hi) env σ = (match sSl (x.ev T env) (lo.ev T env) (hi.ev T env) with | some v => some (v, σ) | none => none) := by
  unfold opSlStr sSl
  cases x.ev T env <;> try rfl
  simp only [lenL_eq, Option.map_some]
  generalize boundsL _ _ _ _ _ = o
  cases o with
  | none => rfl
  | some lh => obtain ⟨l, h⟩ := lh; simp only; generalize sub _ _ _ = u; cases u <;> rfl
theorem sSl_nat {s : List Nat} {i k : Nat} (h1 : i ≤ k) (h2 : k ≤ s.length) : sSl (.str s) (.int .i64 (i : Int)) (.int .i64 (k : Int)) = some (.str ((s.drop i).take (k - i))) := by
  unfold sSl
  have : boundsL s.length s.length (some (.int .i64 (i : Int))) (some (.int .i64 (k : Int))) none = some (i, k) := by
    unfold boundsL
    simp only [toNo, toN, Option.isSome_none, Int.toNat_natCast]
    rw [if_pos ⟨by omega, by omega⟩]
    simp only
    rw [if_pos ⟨by omega, by omega⟩]
  simp only [this]
  rw [sub_eq.2 ⟨by omega, rfl⟩]

theorem among_in {w s : List Nat} (hb : s.length < 9223372036854775808) : ∀ (m k : Nat) (env : Env) (σ : St) (r : Option (Out × Env × St)), Ew TS false (.loop L48_1) env σ = r → k + m = s.length →
    V env 0 = .str w → V env 1 = .str s → V env 6 = .int .i64 k →
    ∃ e, r = some (.exit 2, e, σ) ∧ V e 0 = .str w ∧ V e 1 = .str s ∧ V e 5 = V env 5 ∧ V e 6 = .int .i64 ((k + ((s.drop k).takeWhile noBl).length : Nat) : Int) ∧ k + ((s.drop k).takeWhile noBl).length ≤ s.length
  | 0, k, env, σ, r, hr, hk, h0, h1, h6 => by
    have hlt : ¬ ((k : Int) < (s.length : Int)) := by omega
    rw [Ew_loop] at hr
    simp only [L48_1, sA, reduceIte, Nat.reduceEqDiff, Int.reduceLT, Int.reduceLE, Int.reduceEq, Int.reduceNeg, reduceCtorEq, Nat.reduceAdd, h0, h1, h6, hlt] at hr
    refine ⟨_, hr.symm, by simp only [sV, Nat.reduceEqDiff, reduceIte, Nat.reduceAdd, h0], by simp only [sV, Nat.reduceEqDiff, reduceIte, Nat.reduceAdd, h1], by simp only [sV, Nat.reduceEqDiff, reduceIte, Nat.reduceAdd], ?_, ?_⟩
    · rw [List.drop_eq_nil_of_le (by omega)]; simp only [sV, Nat.reduceEqDiff, reduceIte, Nat.reduceAdd, h6]; rfl
    · rw [List.drop_eq_nil_of_le (by omega)]; simp; omega
  | m + 1, k, env, σ, r, hr, hk, h0, h1, h6 => by
    have hlt : ((k : Int) < (s.length : Int)) := by omega
    have hks : k < s.length := by omega
    have hc := ixC_at (k := .i64) hks
    have hw : wrapI .i64 ((k : Int) + 1) = ((k + 1 : Nat) : Int) := by rw [wrap_i64 (by omega) (by omega)]; omega
    have hg : s.getD k 0 = s[k] := by simp [List.getD_eq_getElem?_getD, hks]
    rw [Ew_loop] at hr
    rw [List.drop_eq_getElem_cons hks]
    by_cases hb' : ((s.getD k 0 : Nat) : Int) = 32
    · have hb2 := eq_true hb'
      have : noBl s[k] = false := by unfold noBl; rw [hg] at hb'; simp; omega
      rw [List.takeWhile_cons, this]
      simp only [L48_1, sA, reduceIte, Nat.reduceEqDiff, Int.reduceLT, Int.reduceLE, Int.reduceEq, Int.reduceNeg, reduceCtorEq, Nat.reduceAdd, opIxStr_s, h0, h1, h6, hlt, hc, hb2] at hr
      exact ⟨_, hr.symm, by simp only [sV, Nat.reduceEqDiff, reduceIte, Nat.reduceAdd, h0], by simp only [sV, Nat.reduceEqDiff, reduceIte, Nat.reduceAdd, h1], by simp only [sV, Nat.reduceEqDiff, reduceIte, Nat.reduceAdd], by simp only [sV, Nat.reduceEqDiff, reduceIte, Nat.reduceAdd, h6]; rfl, by simp; omega⟩
    · have : noBl s[k] = true := by unfold noBl; rw [hg] at hb'; simp; omega
      rw [List.takeWhile_cons, this]
      simp only [L48_1, sA, reduceIte, Nat.reduceEqDiff, Int.reduceLT, Int.reduceLE, Int.reduceEq, Int.reduceNeg, reduceCtorEq, Nat.reduceAdd, opIxStr_s, h0, h1, h6, hlt, hc, hb', hw] at hr
      obtain ⟨e, a1, a2, a3, a4, a5, a6⟩ := among_in (w := w) (s := s) hb m (k + 1) _ σ r hr (by omega) (by simp only [sV, Nat.reduceEqDiff, reduceIte, Nat.reduceAdd, h0]) (by simp only [sV, Nat.reduceEqDiff, reduceIte, Nat.reduceAdd, h1]) (by simp only [sV, Nat.reduceEqDiff, reduceIte, Nat.reduceAdd])
      have : k + (s[k] :: List.takeWhile noBl (s.drop (k + 1))).length = k + 1 + (List.takeWhile noBl (s.drop (k + 1))).length := by simp; omega
      refine ⟨e, a1, a2, a3, ?_, ?_, ?_⟩
      · rw [a4]; simp only [sV, Nat.reduceEqDiff, reduceIte, Nat.reduceAdd]
      · simp only [if_true, this]; exact a5
      · simp only [if_true, this]; exact a6

theorem take_takeWhile (p : Nat → Bool) : ∀ l : List Nat, l.take (l.takeWhile p).length = l.takeWhile p
  | [] => rfl
  | a :: l => by
    rw [List.takeWhile_cons]
    cases p a
    · rfl
    · simp [take_takeWhile p l]

theorem among_loop {w s : List Nat} (hb : s.length < 9223372036854775800) : ∀ (m i : Nat) (env : Env) (σ : St) (r : Option (Out × Env × St)), Ew TS false (.loop L48_2) env σ = r → s.length ≤ i + m → i ≤ s.length + 1 →
    V env 0 = .str w → V env 1 = .str s → V env 5 = .int .i64 i →
    ∃ e, (w ∉ splitG m (s.drop i) ∧ r = some (.exit 0, e, σ)) ∨ (w ∈ splitG m (s.drop i) ∧ r = some (.ret, e, σ) ∧ V e 4 = .bool true)
  | 0, i, env, σ, r, hr, hi, hi2, h0, h1, h5 => by
    have hlt : ¬ ((i : Int) < (s.length : Int)) := by omega
    rw [Ew_loop] at hr
    simp only [L48_2, sA, reduceIte, Nat.reduceEqDiff, Int.reduceLT, Int.reduceLE, Int.reduceEq, Int.reduceNeg, reduceCtorEq, Nat.reduceAdd, h0, h1, h5, hlt] at hr
    exact ⟨_, .inl ⟨by simp [splitG], hr.symm⟩⟩
  | m + 1, i, env, σ, r, hr, hi, hi2, h0, h1, h5 => by
    by_cases hlt : ((i : Int) < (s.length : Int))
    · have his : i < s.length := by omega
      rw [Ew_loop] at hr
      simp only [L48_2, sA, reduceIte, Nat.reduceEqDiff, Int.reduceLT, Int.reduceLE, Int.reduceEq, Int.reduceNeg, reduceCtorEq, Nat.reduceAdd, h0, h1, h5, hlt] at hr
      generalize hin : Ew TS false (.loop L48_1) _ _ = ri at hr
      obtain ⟨e, rfl, a2, a3, a4, a5, a6⟩ := among_in (w := w) (s := s) (by omega) (s.length - i) i _ σ ri hin (by omega) (by simp only [sV, Nat.reduceEqDiff, reduceIte, Nat.reduceAdd, h0]) (by simp only [sV, Nat.reduceEqDiff, reduceIte, Nat.reduceAdd, h1]) (by simp only [sV, Nat.reduceEqDiff, reduceIte, Nat.reduceAdd])
      have a4 : V e 5 = .int .i64 (i : Int) := by rw [a4]; simp only [sV, Nat.reduceEqDiff, reduceIte, Nat.reduceAdd, h5]
      have hs := sSl_nat (s := s) (i := i) (k := i + ((s.drop i).takeWhile noBl).length) (by omega) a6
      rw [Nat.add_sub_cancel_left, take_takeWhile] at hs
      have hne : s.drop i ≠ [] := by intro h; have := List.drop_eq_nil_iff.1 h; omega
      have hsp : splitG (m + 1) (s.drop i) = (s.drop i).takeWhile noBl :: splitG m (s.drop (i + ((s.drop i).takeWhile noBl).length + 1)) := by
        rw [splitG, if_neg hne, List.drop_drop, Nat.add_assoc]
      rw [hsp]
      by_cases hE : (s.drop i).takeWhile noBl = w
      · have hE2 := eq_true hE
        simp only [sA, reduceIte, Nat.reduceEqDiff, Int.reduceLT, Int.reduceLE, Int.reduceEq, Int.reduceNeg, reduceCtorEq, Nat.reduceAdd, opSlStr_both, a2, a3, a4, a5, hs, hE2] at hr
        exact ⟨_, .inr ⟨by rw [hE]; exact List.mem_cons_self, hr.symm, by simp only [sV, Nat.reduceEqDiff, reduceIte, Nat.reduceAdd]⟩⟩
      · have hw : wrapI .i64 (((i + ((s.drop i).takeWhile noBl).length : Nat) : Int) + 1) = ((i + ((s.drop i).takeWhile noBl).length + 1 : Nat) : Int) := by rw [wrap_i64 (by omega) (by omega)]; omega
        simp only [sA, reduceIte, Nat.reduceEqDiff, Int.reduceLT, Int.reduceLE, Int.reduceEq, Int.reduceNeg, reduceCtorEq, Nat.reduceAdd, opSlStr_both, a2, a3, a4, a5, hs, hE, hw] at hr
        have hE' : ¬ w = (s.drop i).takeWhile noBl := fun h => hE h.symm
        obtain ⟨e', h⟩ := among_loop (w := w) (s := s) hb m (i + ((s.drop i).takeWhile noBl).length + 1) _ σ r hr (by omega) (by omega) (by simp only [sV, Nat.reduceEqDiff, reduceIte, Nat.reduceAdd, a2]) (by simp only [sV, Nat.reduceEqDiff, reduceIte, Nat.reduceAdd, a3]) (by simp only [sV, Nat.reduceEqDiff, reduceIte, Nat.reduceAdd])
        refine ⟨e', ?_⟩
        simpa only [List.mem_cons, hE', false_or] using h
    · rw [Ew_loop] at hr
      simp only [L48_2, sA, reduceIte, Nat.reduceEqDiff, Int.reduceLT, Int.reduceLE, Int.reduceEq, Int.reduceNeg, reduceCtorEq, Nat.reduceAdd, h0, h1, h5, hlt] at hr
      rw [List.drop_eq_nil_of_le (by omega)]
      exact ⟨_, .inl ⟨by simp [splitG], hr.symm⟩⟩

theorem among_ok (w s : List Nat) (hb : s.length < 9223372036854775800) (σ : St) : Cw TS false 48 [.str w, .str s] σ = some (.bool (decide (w ∈ splitG s.length s)), σ) := by
  rw [Cw_of fn48 false _ σ rfl]
  simp only [c48, sA, reduceIte, Nat.reduceEqDiff, Int.reduceLT, Int.reduceLE, Int.reduceEq, Int.reduceNeg, reduceCtorEq, Nat.reduceAdd]
  generalize hr : Ew TS false (.loop L48_2) _ σ = r
  obtain ⟨e, ⟨h1, rfl⟩ | ⟨h1, rfl, h3⟩⟩ := among_loop (w := w) (s := s) hb s.length 0 _ σ r hr (by omega) (by omega) (by simp only [sV, Nat.reduceEqDiff, reduceIte, Nat.reduceAdd]) (by simp only [sV, Nat.reduceEqDiff, reduceIte, Nat.reduceAdd]) (by simp only [sV, Nat.reduceEqDiff, reduceIte, Nat.reduceAdd]; rfl)
  · have h1 : decide (w ∈ splitG s.length s) = false := decide_eq_false h1
    simp only [sA, reduceIte, Nat.reduceEqDiff, Int.reduceLT, Int.reduceLE, Int.reduceEq, Int.reduceNeg, reduceCtorEq, Nat.reduceAdd, h1]
  · have h1 : decide (w ∈ splitG s.length s) = true := decide_eq_true h1
    simp only [sA, reduceIte, Nat.reduceEqDiff, Int.reduceLT, Int.reduceLE, Int.reduceEq, Int.reduceNeg, reduceCtorEq, Nat.reduceAdd, h1, h3]
end Go.Ab.Dirs
end

set_option maxRecDepth 10000
noncomputable section
namespace Go.Ab.Dirs
open Go Go.Ab

/-- The state of an element with such attributes. -/
def stateS : List AttrD → Nat
  | [] => 0
  | a :: l => if a.1 = [100, 105, 114] then
      if a.2.map low = [108, 116, 114] then 1 else if a.2.map low = [114, 116, 108] then 2 else if a.2.map low = [97, 117, 116, 111] then 3 else stateS l
    else stateS l
theorem stateS_le : ∀ l, stateS l ≤ 3
  | [] => Nat.zero_le _
  | a :: l => by
    unfold stateS
    have := stateS_le l
    repeat' split
    all_goals omega

theorem state_loop (v : AVal) (l : List AttrD) (hb : l.length < 9223372036854775808) (hwf : ∀ a ∈ l, SWF a.1 ∧ SWF a.2) : ∀ (m i : Nat) (env : Env) (σ : St) (r : Option (Out × Env × St)), Ew TS false (.loop L28_1) env σ = r → i + m = l.length → AttrsI σ v l →
    V env 6 = v → V env 7 = .int .i64 l.length → V env 8 = .int .i64 i →
    ∃ e σ', Fr σ σ' ∧ ((stateS (l.drop i) = 0 ∧ r = some (.exit 0, e, σ')) ∨ (r = some (.ret, e, σ') ∧ V e 2 = .int .u8 (stateS (l.drop i) : Int)))
  | 0, i, env, σ, r, hr, hi, hv, h6, h7, h8 => by
    have hlt : ¬ ((i : Int) < (l.length : Int)) := by omega
    rw [Ew_loop] at hr
    simp only [L28_1, sA, reduceIte, Nat.reduceEqDiff, Int.reduceLT, Int.reduceLE, Int.reduceEq, Int.reduceNeg, reduceCtorEq, Nat.reduceAdd, h6, h7, h8, hlt] at hr
    refine ⟨_, _, Fr.refl _, .inl ⟨?_, hr.symm⟩⟩
    rw [List.drop_eq_nil_of_le (by omega)]; rfl
  | m + 1, i, env, σ, r, hr, hi, hv, h6, h7, h8 => by
    have hlt : ((i : Int) < (l.length : Int)) := by omega
    have his : i < l.length := by omega
    obtain ⟨g1, g2⟩ := hv.get his (k := .i64)
    have hw : wrapI .i64 ((i : Int) + 1) = ((i + 1 : Nat) : Int) := by rw [wrap_i64 (by omega) (by omega)]; omega
    obtain ⟨⟨w1, w2⟩, ⟨w3, w4⟩⟩ := hwf l[i] (List.getElem_mem _)
    rw [List.drop_eq_getElem_cons his, stateS]
    obtain ⟨σ2, e2⟩ : ∃ x, x = (σ.new (.cells true 39 [.str [], .str []])).put σ.next (.cells true 39 [.str l[i].1, .str l[i].2]) := ⟨_, rfl⟩
    have hf2 : Fr σ σ2 := by rw [e2]; exact (Fr.new _ _).put (Nat.le_refl _) _
    have hg2 : σ2.get σ.next = some (.cells true 39 [.str l[i].1, .str l[i].2]) := by rw [e2, St.get_put_same]
    have s1 := same_ok false l[i].2 [108, 116, 114] σ2 w3 w4
    have s2 := same_ok false l[i].2 [114, 116, 108] σ2 w3 w4
    have s3 := same_ok false l[i].2 [97, 117, 116, 111] σ2 w3 w4
    have hv2 := hv.fr hf2
    rw [Ew_loop] at hr
    by_cases hn : l[i].1 = [100, 105, 114]
    · rw [if_pos hn]
      have hn := eq_true hn
      by_cases c1 : l[i].2.map low = [108, 116, 114]
      · rw [if_pos c1]
        have c1 := eq_true c1
        simp only [L28_1, sA, reduceIte, Nat.reduceEqDiff, Int.reduceLT, Int.reduceLE, Int.reduceEq, Int.reduceNeg, reduceCtorEq, Nat.reduceAdd, sM, h6, h7, h8, hlt, g1, g2.ld, ← e2, hg2, opCall, argsOf, hn, s1, c1] at hr
        exact ⟨_, _, hf2, .inr ⟨hr.symm, by simp only [sV, Nat.reduceEqDiff, reduceIte, Nat.reduceAdd]; rfl⟩⟩
      · rw [if_neg c1]
        by_cases c2 : l[i].2.map low = [114, 116, 108]
        · rw [if_pos c2]
          have c2 := eq_true c2
          simp only [L28_1, sA, reduceIte, Nat.reduceEqDiff, Int.reduceLT, Int.reduceLE, Int.reduceEq, Int.reduceNeg, reduceCtorEq, Nat.reduceAdd, sM, h6, h7, h8, hlt, g1, g2.ld, ← e2, hg2, opCall, argsOf, hn, s1, c1, s2, c2] at hr
          exact ⟨_, _, hf2, .inr ⟨hr.symm, by simp only [sV, Nat.reduceEqDiff, reduceIte, Nat.reduceAdd]; rfl⟩⟩
        · rw [if_neg c2]
          by_cases c3 : l[i].2.map low = [97, 117, 116, 111]
          · rw [if_pos c3]
            have c3 := eq_true c3
            simp only [L28_1, sA, reduceIte, Nat.reduceEqDiff, Int.reduceLT, Int.reduceLE, Int.reduceEq, Int.reduceNeg, reduceCtorEq, Nat.reduceAdd, sM, h6, h7, h8, hlt, g1, g2.ld, ← e2, hg2, opCall, argsOf, hn, s1, c1, s2, c2, s3, c3] at hr
            exact ⟨_, _, hf2, .inr ⟨hr.symm, by simp only [sV, Nat.reduceEqDiff, reduceIte, Nat.reduceAdd]; rfl⟩⟩
          · rw [if_neg c3]
            simp only [L28_1, sA, reduceIte, Nat.reduceEqDiff, Int.reduceLT, Int.reduceLE, Int.reduceEq, Int.reduceNeg, reduceCtorEq, Nat.reduceAdd, sM, h6, h7, h8, hlt, g1, g2.ld, ← e2, hg2, opCall, argsOf, hn, s1, c1, s2, c2, s3, c3, hw] at hr
            obtain ⟨e, σ5, hf5, h⟩ := state_loop v l hb hwf m (i + 1) _ σ2 r hr (by omega) hv2 (by simp only [sV, Nat.reduceEqDiff, reduceIte, Nat.reduceAdd, h6]) (by simp only [sV, Nat.reduceEqDiff, reduceIte, Nat.reduceAdd, h7]) (by simp only [sV, Nat.reduceEqDiff, reduceIte, Nat.reduceAdd])
            exact ⟨e, σ5, hf2.trans hf5, h⟩
    · rw [if_neg hn]
      simp only [L28_1, sA, reduceIte, Nat.reduceEqDiff, Int.reduceLT, Int.reduceLE, Int.reduceEq, Int.reduceNeg, reduceCtorEq, Nat.reduceAdd, sM, h6, h7, h8, hlt, g1, g2.ld, ← e2, hg2, hn, hw] at hr
      obtain ⟨e, σ5, hf5, h⟩ := state_loop v l hb hwf m (i + 1) _ σ2 r hr (by omega) hv2 (by simp only [sV, Nat.reduceEqDiff, reduceIte, Nat.reduceAdd, h6]) (by simp only [sV, Nat.reduceEqDiff, reduceIte, Nat.reduceAdd, h7]) (by simp only [sV, Nat.reduceEqDiff, reduceIte, Nat.reduceAdd])
      exact ⟨e, σ5, hf2.trans hf5, h⟩

theorem state_ok {a b c d f v : AVal} (l : List AttrD) (σ : St) (hb : l.length < 9223372036854775808) (hwf : ∀ a ∈ l, SWF a.1 ∧ SWF a.2) (hv : AttrsI σ v l) :
    ∃ σ', Fr σ σ' ∧ Cw TS false 28 [.agg [a, b, v, c, d, f]] σ = some (.int .u8 (stateS l : Int), σ') := by
  have hv1 := hv.fr (Fr.new σ (.cells true 36 [a, b, v, c, d, f]))
  have hl := SlI.len hv1
  rw [Cw_of fn28 false _ σ rfl]
  simp only [c28, sA, reduceIte, Nat.reduceEqDiff, Int.reduceLT, Int.reduceLE, Int.reduceEq, Int.reduceNeg, reduceCtorEq, Nat.reduceAdd, sM, opBox, hl]
  generalize hr : Ew TS false (.loop L28_1) _ _ = r
  obtain ⟨e, σ', hf, ⟨h1, rfl⟩ | ⟨rfl, h3⟩⟩ := state_loop v l hb hwf l.length 0 _ _ r hr (by omega) hv1 (by simp only [sV, Nat.reduceEqDiff, reduceIte, Nat.reduceAdd]) (by simp only [sV, Nat.reduceEqDiff, reduceIte, Nat.reduceAdd]) (by simp only [sV, Nat.reduceEqDiff, reduceIte, Nat.reduceAdd]; rfl)
  · refine ⟨σ', (Fr.new _ _).trans hf, ?_⟩
    rw [List.drop_zero] at h1
    simp only [sA, reduceIte, Nat.reduceEqDiff, Int.reduceLT, Int.reduceLE, Int.reduceEq, Int.reduceNeg, reduceCtorEq, Nat.reduceAdd, h1]
    rfl
  · refine ⟨σ', (Fr.new _ _).trans hf, ?_⟩
    rw [List.drop_zero] at h3
    simp only [sA, reduceIte, Nat.reduceEqDiff, Int.reduceLT, Int.reduceLE, Int.reduceEq, Int.reduceNeg, reduceCtorEq, Nat.reduceAdd, h3]
end Go.Ab.Dirs
end

set_option maxRecDepth 10000
noncomputable section
namespace Go.Ab.Dirs
open Go Go.Ab

theorem OwnI.same {σ σ' : St} {b : Nat} {l : List Nat} (h : OwnI σ b l) (hn : σ.next ≤ σ'.next) (hg : σ'.get b = σ.get b) : OwnI σ' b l := by
  obtain ⟨h1, f, cs, h2, h3⟩ := h
  exact ⟨Nat.lt_of_lt_of_le h1 hn, f, cs, by rw [hg]; exact h2, h3⟩

set_option maxHeartbeats 8000000 in
theorem right_loop {σ0 : St} {t : List ND} {tv : AVal} (ht : TreeI σ0 tv t) (hwf : ∀ n ∈ t, NWF n) (hN : t.length ≤ 16384) (bk : Nat) (hbk : σ0.next ≤ bk) : ∀ (m i : Nat) (path cnt : List Nat) (bp : Nat) (e : Env) (σ : St) (r : Option (Out × Env × St)), i + m = t.length → InvR t i path cnt →
    Fr σ0 σ → σ0.next ≤ bp → bp ≠ bk → OwnI σ bp path → OwnI σ bk cnt → Ew TS false (.loop L13_3) e σ = r →
    V e 0 = tv → V e 3 = .slice bp 0 path.length 1 → V e 4 = .slice bk 0 t.length 1 → V e 35 = tv → V e 36 = .int .i64 (t.length : Int) → V e 37 = .int .i64 (i : Int) →
    ∃ e' σ', Fr σ0 σ' ∧ ((rightG t m i path cnt = none ∧ r = some (.ret, e', σ') ∧ V e' 2 = .int .i64 53) ∨
      (∃ cnt', rightG t m i path cnt = some cnt' ∧ r = some (.exit 0, e', σ') ∧ V e' 0 = tv ∧ V e' 4 = .slice bk 0 t.length 1 ∧ OwnI σ' bk cnt' ∧ cnt'.length = t.length))
  | 0, i, path, cnt, bp, e, σ, r, hi, hv, hf, hbp, hbb, hp, hc, hr, h0, h3, h4, h35, h36, h37 => by
    have hlt : ¬ ((i : Int) < (t.length : Int)) := by omega
    rw [Ew_loop] at hr
    simp only [L13_3, sA, reduceIte, Nat.reduceEqDiff, Int.reduceLT, Int.reduceLE, Int.reduceEq, Int.reduceNeg, reduceCtorEq, Nat.reduceAdd, h36, h37, hlt] at hr
    exact ⟨_, _, hf, .inr ⟨cnt, rfl, hr.symm, by simp only [sV, Nat.reduceEqDiff, reduceIte, Nat.reduceAdd, h0], by simp only [sV, Nat.reduceEqDiff, reduceIte, Nat.reduceAdd, h4], hc, hv.clen⟩⟩
  | m + 1, i, path, cnt, bp, e, σ, r, hi, hv, hf, hbp, hbb, hp, hc, hr, h0, h3, h4, h35, h36, h37 => by
    have hlt : ((i : Int) < (t.length : Int)) := by omega
    have hit : i < t.length := by omega
    have hw : wrapI .i64 ((i : Int) + 1) = ((i + 1 : Nat) : Int) := by rw [wrap_i64 (by omega) (by omega)]; omega
    obtain ⟨av, kv, x1, x2⟩ := (ht.fr hf).get hit
    have x1 := x1 .i64
    have o1 := x2.attrs.one
    have o2 := x2.kids.one
    have hcp := Copy.of (z := .nils) (f := true) (t := 36) (zs := [.int .u8 0, .str [], .nils, .str [], .int .i64 0, .nils]) x2
    have hf2 : Fr σ ((σ.new (.cells true 36 [.int .u8 0, .str [], .nils, .str [], .int .i64 0, .nils])).put σ.next (.cells true 36 [.int .u8 (t[i].kind : Int), .str t[i].name, av, .str t[i].data, .int .i64 t[i].up, kv])) := (Fr.new _ _).put (Nat.le_refl _) _
    have x2l := x2.ld
    generalize e2 : (σ.new (.cells true 36 [.int .u8 0, .str [], .nils, .str [], .int .i64 0, .nils])).put σ.next (.cells true 36 [.int .u8 (t[i].kind : Int), .str t[i].name, av, .str t[i].data, .int .i64 t[i].up, kv]) = σ2 at hcp hf2
    have hgi : t.getD i dN = t[i] := getD_at hit dN
    have htI : Fr σ0 σ2 := hf.trans hf2
    rw [rightG, stepR, hgi]
    rw [Ew_loop] at hr
    by_cases hi0 : i = 0
    · have hi0' : ¬ (0 : Int) < (i : Int) := by omega
      rw [if_pos hi0]
      obtain ⟨σ3, hf3, hF⟩ := fits_ok (ht.fr htI) ((hp.fr hf2).ints) hit hwf (by have := hv.len; omega) hv.pos hv.mem (fun h => absurd hi0 h)
      cases hfs : fitsS t path i t[i] with
      | false =>
        rw [hfs] at hF
        simp only [L13_3, B13_14, B13_7, B13_11, B13_10, B13_12, sA, reduceIte, Nat.reduceEqDiff, Int.reduceLT, Int.reduceLE, Int.reduceEq, Int.reduceNeg, reduceCtorEq, Nat.reduceAdd, sM, h0, h3, h35, h36, h37, hlt, x1, x2l, o1, o2, e2, hi0', opCall, argsOf, hF] at hr
        exact ⟨_, _, htI.trans hf3, .inl ⟨by simp, hr.symm, by simp only [sV, Nat.reduceEqDiff, reduceIte, Nat.reduceAdd]⟩⟩
      | true =>
        rw [hfs] at hF
        simp only [L13_3, B13_14, B13_7, B13_11, B13_10, B13_12, B13_13, sA, reduceIte, Nat.reduceEqDiff, Int.reduceLT, Int.reduceLE, Int.reduceEq, Int.reduceNeg, reduceCtorEq, Nat.reduceAdd, sM, h0, h3, h35, h36, h37, hlt, x1, x2l, o1, o2, e2, hi0', opCall, argsOf, hF, hw] at hr
        have hstep : stepR t i path cnt = some (path, cnt) := by unfold stepR; rw [if_pos hi0, hgi, hfs]; rfl
        have hall := hf2.trans hf3
        obtain ⟨e', σ', hf', hh⟩ := right_loop ht hwf hN bk hbk m (i + 1) path cnt bp _ σ3 r (by omega) (hv.step hit hstep) (hf.trans hall) hbp hbb (hp.fr hall) (hc.fr hall) hr (by simp only [sV, Nat.reduceEqDiff, reduceIte, Nat.reduceAdd, h0]) (by simp only [sV, Nat.reduceEqDiff, reduceIte, Nat.reduceAdd, h3]) (by simp only [sV, Nat.reduceEqDiff, reduceIte, Nat.reduceAdd, h4]) (by simp only [sV, Nat.reduceEqDiff, reduceIte, Nat.reduceAdd, h35]) (by simp only [sV, Nat.reduceEqDiff, reduceIte, Nat.reduceAdd, h36]) (by simp only [sV, Nat.reduceEqDiff, reduceIte, Nat.reduceAdd])
        exact ⟨e', σ', hf', by simpa using hh⟩
    · have hi0' : (0 : Int) < (i : Int) := by omega
      rw [if_neg hi0]
      simp only [L13_3, B13_14, B13_7, B13_11, B13_10, sA, reduceIte, Nat.reduceEqDiff, Int.reduceLT, Int.reduceLE, Int.reduceEq, Int.reduceNeg, reduceCtorEq, Nat.reduceAdd, sM, h0, h3, h35, h36, h37, hlt, x1, x2l, o1, o2, e2, hi0'] at hr
      generalize hr2 : Ew TS false (.loop L13_2) _ _ = r2 at hr
      obtain ⟨ea, rfl, a3, ⟨k, hk⟩, a0, a4, a5, a6, a35, a36, a37⟩ := pop_loop hcp path.length path _ r2 rfl (by have := hv.len; omega) (hp.fr hf2) hr2 (by simp only [sV, Nat.reduceEqDiff, reduceIte, Nat.reduceAdd, h3]) (by simp only [sV, Nat.reduceEqDiff, reduceIte, Nat.reduceAdd])
      simp only [sV, Nat.reduceEqDiff, reduceIte, Nat.reduceAdd, h0, h4, h35, h36, h37] at a0 a4 a5 a6 a35 a36 a37
      simp only [sA, reduceIte, Nat.reduceEqDiff, Int.reduceLT, Int.reduceLE, Int.reduceEq, Int.reduceNeg, reduceCtorEq, Nat.reduceAdd] at hr
      generalize hr8 : Ew TS false B13_8 _ _ = r8 at hr
      have hu : popS t[i].up path ≠ [] → ∃ u : Nat, t[i].up = (u : Int) ∧ u < t.length := by
        intro hne
        obtain ⟨l, q, w1, w2⟩ := popS_last _ _ hne
        refine ⟨q, w2.symm, hv.mem q ?_⟩
        have : q ∈ popS t[i].up path := by rw [w1]; simp
        rw [hk] at this; exact List.mem_of_mem_take this
      have hp1 : OwnI σ2 bp (popS t[i].up path) := by rw [hk]; exact (hp.fr hf2).take k
      obtain ⟨eb, rfl, h97, b0, b3, b4, b5, b6, b35, b36, b37⟩ := right_8 (p1 := popS t[i].up path) hr8 hcp (ht.fr htI) (hc.fr hf2) hv.clen hu a0 a3 a4 a5 a6
      rw [a0] at b0; rw [a3] at b3; rw [a4] at b4; rw [a5] at b5; rw [a6] at b6; rw [a35] at b35; rw [a36] at b36; rw [a37] at b37
      rcases h97 with ⟨h97, hno⟩ | ⟨h97, hyes⟩
      · rw [if_neg hno]
        simp only [sA, reduceIte, Nat.reduceEqDiff, Int.reduceLT, Int.reduceLE, Int.reduceEq, Int.reduceNeg, reduceCtorEq, Nat.reduceAdd, h97] at hr
        exact ⟨_, _, htI, .inl ⟨rfl, hr.symm, by simp only [sV, Nat.reduceEqDiff, reduceIte, Nat.reduceAdd]⟩⟩
      · rw [if_pos hyes]
        obtain ⟨u, hu1, hu2⟩ := hu hyes.1
        have htn : t[i].up.toNat = u := by rw [hu1]; simp
        rw [htn] at hyes ⊢
        have huc : u < cnt.length := by rw [hv.clen]; exact hu2
        have hcu : cnt.getD u 0 = cnt[u] := getD_at huc 0
        have htu : t.getD u dN = t[u] := getD_at hu2 dN
        simp only [sA, reduceIte, Nat.reduceEqDiff, Int.reduceLT, Int.reduceLE, Int.reduceEq, Int.reduceNeg, reduceCtorEq, Nat.reduceAdd, h97] at hr
        generalize hr9 : Ew TS false B13_9 _ _ = r9 at hr
        have hcb : cnt[u] + 1 < 9223372036854775808 := by
          have h1 := hyes.2.1
          have h2 := (hwf t[u] (List.getElem_mem _)).klen
          rw [hcu] at h1
          have h3 : (t.getD u ⟨0, [], [], [], 0, []⟩).kids.length = t[u].kids.length := by rw [← htu]
          omega
        obtain ⟨ec, σ3, rfl, hf3, hn3, hg3, hk3, c0, c3, c4, c5, c6, c35, c36, c37⟩ := right_9 hr9 hcp (hc.fr hf2) hu1 huc hcb htI hbk (by rw [b4, hv.clen]) b6
        rw [b0] at c0; rw [b3] at c3; rw [b4] at c4; rw [b5] at c5; rw [b35] at c35; rw [b36] at c36; rw [b37] at c37
        have hp3 : OwnI σ3 bp (popS t[i].up path) := hp1.same (Nat.le_of_eq hn3.symm) (hg3 bp hbb)
        have hpos1 : 0 < (popS t[i].up path).length := List.length_pos_iff.2 hyes.1
        have hmem1 : ∀ p ∈ popS t[i].up path, p < t.length := by
          intro p hpp; rw [hk] at hpp; exact hv.mem p (List.mem_of_mem_take hpp)
        have hlen1 : (popS t[i].up path).length ≤ i + 1 := by rw [hk, List.length_take]; have := hv.len; omega
        obtain ⟨l, q, w1, w2⟩ := popS_last _ _ hyes.1
        have hqu : q = u := by omega
        have hup : upOf t (popS t[i].up path) = t[u] := by
          unfold upOf
          have : (popS t[i].up path).getD ((popS t[i].up path).length - 1) 0 = u := by
            rw [w1, ← hqu]; simp
          rw [this]; exact getD_at hu2 _
        have hkid : t[u].kids[cnt[u]]? = some (i : Int) := by
          have h1 := hyes.2.1
          have h2 := hyes.2.2
          have h3 : t.getD u ⟨0, [], [], [], 0, []⟩ = t[u] := htu
          rw [h3, hcu] at h1 h2
          rw [List.getElem?_eq_getElem h1]
          rw [getD_at h1] at h2
          rw [h2]
        have hvk : i ≠ 0 → ∀ j : Nat, idxS (i : Int) (upOf t (popS t[i].up path)).kids 0 = ((j + 1 : Nat) : Int) → ∃ z : Nat, ∃ (h : j < (upOf t (popS t[i].up path)).kids.length), (upOf t (popS t[i].up path)).kids[j] = (z : Int) ∧ z < t.length := by
          intro _ j hj
          rw [hup] at hj
          obtain ⟨j2, _, hj2, hj3⟩ := idxS_le (i : Int) t[u].kids cnt[u] 0 hkid
          have hjc : j < cnt[u] := by
            rw [hj3] at hj; omega
          have hb1 := (hv.cnt u hu2).1
          obtain ⟨z, hz1, hz2⟩ := (hv.cnt u hu2).2 j (by rw [hcu]; exact hjc)
          rw [htu] at hz1 hb1
          have hjl : j < t[u].kids.length := by omega
          rw [getD_at hjl] at hz1
          refine ⟨z, by rw [hup]; exact hjl, ?_, hz2⟩
          rw [← hz1]
          congr 1
          rw [hup]
        obtain ⟨σ4, hf4, hF⟩ := fits_ok (ht.fr hf3) hp3.ints hit hwf (by omega) hpos1 hmem1 hvk
        cases hfs : fitsS t (popS t[i].up path) i t[i] with
        | false =>
          rw [hfs] at hF
          simp only [sA, reduceIte, Nat.reduceEqDiff, Int.reduceLT, Int.reduceLE, Int.reduceEq, Int.reduceNeg, reduceCtorEq, Nat.reduceAdd, B13_12, c0, c3, c5, opCall, argsOf, hF] at hr
          exact ⟨_, _, hf3.trans hf4, .inl ⟨by simp, hr.symm, by simp only [sV, Nat.reduceEqDiff, reduceIte, Nat.reduceAdd]⟩⟩
        | true =>
          rw [hfs] at hF
          have hstep : stepR t i path cnt = some (popS t[i].up path ++ [i], cnt.set u (cnt[u] + 1)) := by
            unfold stepR; rw [if_neg hi0, hgi, htn, if_pos hyes, hfs, hcu]; rfl
          have hnew : Fr σ0 (σ4.new (.cells true 3 [.int .i64 (i : Int)])) := (hf3.trans hf4).trans (Fr.new _ _)
          obtain ⟨σ6, hap, hn6, hg6, ho6, hf6⟩ := ap_own (σ := σ4.new (.cells true 3 [.int .i64 (i : Int)])) (b := bp) (c := σ4.next) (l := popS t[i].up path) (i := i) ((hp3.fr hf4).fr (Fr.new _ _)) (St.get_new_same _ _) (by omega)
          have hk6 : OwnI σ6 bk (cnt.set u (cnt[u] + 1)) := by
            have hk5 := (hk3.fr hf4).fr (Fr.new σ4 (.cells true 3 [.int .i64 (i : Int)]))
            exact hk5.same (by rw [hn6]; exact Nat.le_succ _) (hg6 bk hk5.1 (Ne.symm hbb))
          simp only [sA, reduceIte, Nat.reduceEqDiff, Int.reduceLT, Int.reduceLE, Int.reduceEq, Int.reduceNeg, reduceCtorEq, Nat.reduceAdd, B13_12, B13_13, c0, c3, c5, c37, hi0', opCall, argsOf, hF, opBuildSlice_s, bsS, fillL_int1, List.map_cons, List.map_nil, Bool.false_eq_true, opAppend_s, hap, hw] at hr
          obtain ⟨e', σ', hf', hh⟩ := right_loop ht hwf hN bk hbk m (i + 1) (popS t[i].up path ++ [i]) (cnt.set u (cnt[u] + 1)) _ _ σ6 r (by omega) (hv.step hit hstep) (hf6 σ0 hnew hbp) (Nat.le_trans hbp (Nat.le_of_lt ((hp3.fr hf4).fr (Fr.new _ _)).1)) (by
              have := ((hk3.fr hf4).fr (Fr.new σ4 (.cells true 3 [.int .i64 (i : Int)]))).1
              omega) ho6 hk6 hr (by simp only [sV, Nat.reduceEqDiff, reduceIte, Nat.reduceAdd, c0]) (by simp only [sV, Nat.reduceEqDiff, reduceIte, Nat.reduceAdd]) (by simp only [sV, Nat.reduceEqDiff, reduceIte, Nat.reduceAdd, c4]) (by simp only [sV, Nat.reduceEqDiff, reduceIte, Nat.reduceAdd, c35]) (by simp only [sV, Nat.reduceEqDiff, reduceIte, Nat.reduceAdd, c36]) (by simp only [sV, Nat.reduceEqDiff, reduceIte, Nat.reduceAdd])
          refine ⟨e', σ', hf', ?_⟩
          rw [hcu]
          simpa using hh
end Go.Ab.Dirs
end
