/- tree: kinds, names, words. -/
import Derived.Test.YthbanbnmomcohaaGreatDoorP1
set_option maxRecDepth 10000
noncomputable section
namespace Go.Ab.Dirs
open Go Go.Ab

/-- The kinds of names. -/
def kindL : List (List Nat × Nat) := [([112], 2), ([108, 105], 3), ([97], 6), ([98, 114], 7), ([119, 98, 114], 7), ([104, 114], 8), ([100, 105, 118], 1), ([117, 108], 1), ([111, 108], 1), ([115, 101, 99, 116, 105, 111, 110], 1), ([97, 114, 116, 105, 99, 108, 101], 1), ([104, 101, 97, 100, 101, 114], 1), ([102, 111, 111, 116, 101, 114], 1), ([109, 97, 105, 110], 1), ([110, 97, 118], 1), ([97, 115, 105, 100, 101], 1), ([98, 108, 111, 99, 107, 113, 117, 111, 116, 101], 1), ([102, 105, 103, 117, 114, 101], 1), ([104, 49], 4), ([104, 50], 4), ([104, 51], 4), ([104, 52], 4), ([104, 53], 4), ([104, 54], 4), ([115, 112, 97, 110], 5), ([98], 5), ([105], 5), ([101, 109], 5), ([115, 116, 114, 111, 110, 103], 5), ([117], 5), ([115], 5), ([115, 109, 97, 108, 108], 5), ([99, 111, 100, 101], 5), ([98, 100, 105], 5), ([98, 100, 111], 5), ([97, 98, 98, 114], 5), ([99, 105, 116, 101], 5), ([113], 5), ([115, 117, 98], 5), ([115, 117, 112], 5), ([109, 97, 114, 107], 5)]
def lookK (s : List Nat) : List (List Nat × Nat) → Nat
  | [] => 0
  | (w, k) :: l => if s = w then k else lookK s l
def kindS (s : List Nat) : Nat := lookK s kindL
theorem kindS_le (s : List Nat) : kindS s ≤ 8 := by
  have : ∀ l : List (List Nat × Nat), (∀ x ∈ l, x.2 ≤ 8) → lookK s l ≤ 8 := by
    intro l
    induction l with
    | nil => intro _; exact Nat.zero_le _
    | cons x l ih =>
      intro h
      unfold lookK
      split
      · exact h _ (List.mem_cons_self)
      · exact ih fun y hy => h y (List.mem_cons_of_mem _ hy)
  exact this _ (by decide)
theorem kind_0 (q : Bool) (σ : St) : Cw TS q 40 [.str [112]] σ = some (.int .u8 2, σ) := Cw_iff.2 ⟨100, by kernel_rfl⟩
theorem kind_1 (q : Bool) (σ : St) : Cw TS q 40 [.str [108, 105]] σ = some (.int .u8 3, σ) := Cw_iff.2 ⟨100, by kernel_rfl⟩
theorem kind_2 (q : Bool) (σ : St) : Cw TS q 40 [.str [97]] σ = some (.int .u8 6, σ) := Cw_iff.2 ⟨100, by kernel_rfl⟩
theorem kind_3 (q : Bool) (σ : St) : Cw TS q 40 [.str [98, 114]] σ = some (.int .u8 7, σ) := Cw_iff.2 ⟨100, by kernel_rfl⟩
theorem kind_4 (q : Bool) (σ : St) : Cw TS q 40 [.str [119, 98, 114]] σ = some (.int .u8 7, σ) := Cw_iff.2 ⟨100, by kernel_rfl⟩
theorem kind_5 (q : Bool) (σ : St) : Cw TS q 40 [.str [104, 114]] σ = some (.int .u8 8, σ) := Cw_iff.2 ⟨100, by kernel_rfl⟩
theorem kind_6 (q : Bool) (σ : St) : Cw TS q 40 [.str [100, 105, 118]] σ = some (.int .u8 1, σ) := Cw_iff.2 ⟨100, by kernel_rfl⟩
theorem kind_7 (q : Bool) (σ : St) : Cw TS q 40 [.str [117, 108]] σ = some (.int .u8 1, σ) := Cw_iff.2 ⟨100, by kernel_rfl⟩
theorem kind_8 (q : Bool) (σ : St) : Cw TS q 40 [.str [111, 108]] σ = some (.int .u8 1, σ) := Cw_iff.2 ⟨100, by kernel_rfl⟩
theorem kind_9 (q : Bool) (σ : St) : Cw TS q 40 [.str [115, 101, 99, 116, 105, 111, 110]] σ = some (.int .u8 1, σ) := Cw_iff.2 ⟨100, by kernel_rfl⟩
theorem kind_10 (q : Bool) (σ : St) : Cw TS q 40 [.str [97, 114, 116, 105, 99, 108, 101]] σ = some (.int .u8 1, σ) := Cw_iff.2 ⟨100, by kernel_rfl⟩
theorem kind_11 (q : Bool) (σ : St) : Cw TS q 40 [.str [104, 101, 97, 100, 101, 114]] σ = some (.int .u8 1, σ) := Cw_iff.2 ⟨100, by kernel_rfl⟩
theorem kind_12 (q : Bool) (σ : St) : Cw TS q 40 [.str [102, 111, 111, 116, 101, 114]] σ = some (.int .u8 1, σ) := Cw_iff.2 ⟨100, by kernel_rfl⟩
theorem kind_13 (q : Bool) (σ : St) : Cw TS q 40 [.str [109, 97, 105, 110]] σ = some (.int .u8 1, σ) := Cw_iff.2 ⟨100, by kernel_rfl⟩
theorem kind_14 (q : Bool) (σ : St) : Cw TS q 40 [.str [110, 97, 118]] σ = some (.int .u8 1, σ) := Cw_iff.2 ⟨100, by kernel_rfl⟩
theorem kind_15 (q : Bool) (σ : St) : Cw TS q 40 [.str [97, 115, 105, 100, 101]] σ = some (.int .u8 1, σ) := Cw_iff.2 ⟨100, by kernel_rfl⟩
theorem kind_16 (q : Bool) (σ : St) : Cw TS q 40 [.str [98, 108, 111, 99, 107, 113, 117, 111, 116, 101]] σ = some (.int .u8 1, σ) := Cw_iff.2 ⟨100, by kernel_rfl⟩
theorem kind_17 (q : Bool) (σ : St) : Cw TS q 40 [.str [102, 105, 103, 117, 114, 101]] σ = some (.int .u8 1, σ) := Cw_iff.2 ⟨100, by kernel_rfl⟩
theorem kind_18 (q : Bool) (σ : St) : Cw TS q 40 [.str [104, 49]] σ = some (.int .u8 4, σ) := Cw_iff.2 ⟨100, by kernel_rfl⟩
theorem kind_19 (q : Bool) (σ : St) : Cw TS q 40 [.str [104, 50]] σ = some (.int .u8 4, σ) := Cw_iff.2 ⟨100, by kernel_rfl⟩
theorem kind_20 (q : Bool) (σ : St) : Cw TS q 40 [.str [104, 51]] σ = some (.int .u8 4, σ) := Cw_iff.2 ⟨100, by kernel_rfl⟩
theorem kind_21 (q : Bool) (σ : St) : Cw TS q 40 [.str [104, 52]] σ = some (.int .u8 4, σ) := Cw_iff.2 ⟨100, by kernel_rfl⟩
theorem kind_22 (q : Bool) (σ : St) : Cw TS q 40 [.str [104, 53]] σ = some (.int .u8 4, σ) := Cw_iff.2 ⟨100, by kernel_rfl⟩
theorem kind_23 (q : Bool) (σ : St) : Cw TS q 40 [.str [104, 54]] σ = some (.int .u8 4, σ) := Cw_iff.2 ⟨100, by kernel_rfl⟩
theorem kind_24 (q : Bool) (σ : St) : Cw TS q 40 [.str [115, 112, 97, 110]] σ = some (.int .u8 5, σ) := Cw_iff.2 ⟨100, by kernel_rfl⟩
theorem kind_25 (q : Bool) (σ : St) : Cw TS q 40 [.str [98]] σ = some (.int .u8 5, σ) := Cw_iff.2 ⟨100, by kernel_rfl⟩
theorem kind_26 (q : Bool) (σ : St) : Cw TS q 40 [.str [105]] σ = some (.int .u8 5, σ) := Cw_iff.2 ⟨100, by kernel_rfl⟩
theorem kind_27 (q : Bool) (σ : St) : Cw TS q 40 [.str [101, 109]] σ = some (.int .u8 5, σ) := Cw_iff.2 ⟨100, by kernel_rfl⟩
theorem kind_28 (q : Bool) (σ : St) : Cw TS q 40 [.str [115, 116, 114, 111, 110, 103]] σ = some (.int .u8 5, σ) := Cw_iff.2 ⟨100, by kernel_rfl⟩
theorem kind_29 (q : Bool) (σ : St) : Cw TS q 40 [.str [117]] σ = some (.int .u8 5, σ) := Cw_iff.2 ⟨100, by kernel_rfl⟩
theorem kind_30 (q : Bool) (σ : St) : Cw TS q 40 [.str [115]] σ = some (.int .u8 5, σ) := Cw_iff.2 ⟨100, by kernel_rfl⟩
theorem kind_31 (q : Bool) (σ : St) : Cw TS q 40 [.str [115, 109, 97, 108, 108]] σ = some (.int .u8 5, σ) := Cw_iff.2 ⟨100, by kernel_rfl⟩
theorem kind_32 (q : Bool) (σ : St) : Cw TS q 40 [.str [99, 111, 100, 101]] σ = some (.int .u8 5, σ) := Cw_iff.2 ⟨100, by kernel_rfl⟩
theorem kind_33 (q : Bool) (σ : St) : Cw TS q 40 [.str [98, 100, 105]] σ = some (.int .u8 5, σ) := Cw_iff.2 ⟨100, by kernel_rfl⟩
theorem kind_34 (q : Bool) (σ : St) : Cw TS q 40 [.str [98, 100, 111]] σ = some (.int .u8 5, σ) := Cw_iff.2 ⟨100, by kernel_rfl⟩
theorem kind_35 (q : Bool) (σ : St) : Cw TS q 40 [.str [97, 98, 98, 114]] σ = some (.int .u8 5, σ) := Cw_iff.2 ⟨100, by kernel_rfl⟩
theorem kind_36 (q : Bool) (σ : St) : Cw TS q 40 [.str [99, 105, 116, 101]] σ = some (.int .u8 5, σ) := Cw_iff.2 ⟨100, by kernel_rfl⟩
theorem kind_37 (q : Bool) (σ : St) : Cw TS q 40 [.str [113]] σ = some (.int .u8 5, σ) := Cw_iff.2 ⟨100, by kernel_rfl⟩
theorem kind_38 (q : Bool) (σ : St) : Cw TS q 40 [.str [115, 117, 98]] σ = some (.int .u8 5, σ) := Cw_iff.2 ⟨100, by kernel_rfl⟩
theorem kind_39 (q : Bool) (σ : St) : Cw TS q 40 [.str [115, 117, 112]] σ = some (.int .u8 5, σ) := Cw_iff.2 ⟨100, by kernel_rfl⟩
theorem kind_40 (q : Bool) (σ : St) : Cw TS q 40 [.str [109, 97, 114, 107]] σ = some (.int .u8 5, σ) := Cw_iff.2 ⟨100, by kernel_rfl⟩

set_option maxHeartbeats 4000000 in
theorem Kind_ok (q : Bool) (s : List Nat) (σ : St) : Cw TS q 40 [.str s] σ = some (.int .u8 (kindS s : Int), σ) := by
  by_cases h0 : s = [112]
  · subst h0; exact kind_0 q σ
  by_cases h1 : s = [108, 105]
  · subst h1; exact kind_1 q σ
  by_cases h2 : s = [97]
  · subst h2; exact kind_2 q σ
  by_cases h3 : s = [98, 114]
  · subst h3; exact kind_3 q σ
  by_cases h4 : s = [119, 98, 114]
  · subst h4; exact kind_4 q σ
  by_cases h5 : s = [104, 114]
  · subst h5; exact kind_5 q σ
  by_cases h6 : s = [100, 105, 118]
  · subst h6; exact kind_6 q σ
  by_cases h7 : s = [117, 108]
  · subst h7; exact kind_7 q σ
  by_cases h8 : s = [111, 108]
  · subst h8; exact kind_8 q σ
  by_cases h9 : s = [115, 101, 99, 116, 105, 111, 110]
  · subst h9; exact kind_9 q σ
  by_cases h10 : s = [97, 114, 116, 105, 99, 108, 101]
  · subst h10; exact kind_10 q σ
  by_cases h11 : s = [104, 101, 97, 100, 101, 114]
  · subst h11; exact kind_11 q σ
  by_cases h12 : s = [102, 111, 111, 116, 101, 114]
  · subst h12; exact kind_12 q σ
  by_cases h13 : s = [109, 97, 105, 110]
  · subst h13; exact kind_13 q σ
  by_cases h14 : s = [110, 97, 118]
  · subst h14; exact kind_14 q σ
  by_cases h15 : s = [97, 115, 105, 100, 101]
  · subst h15; exact kind_15 q σ
  by_cases h16 : s = [98, 108, 111, 99, 107, 113, 117, 111, 116, 101]
  · subst h16; exact kind_16 q σ
  by_cases h17 : s = [102, 105, 103, 117, 114, 101]
  · subst h17; exact kind_17 q σ
  by_cases h18 : s = [104, 49]
  · subst h18; exact kind_18 q σ
  by_cases h19 : s = [104, 50]
  · subst h19; exact kind_19 q σ
  by_cases h20 : s = [104, 51]
  · subst h20; exact kind_20 q σ
  by_cases h21 : s = [104, 52]
  · subst h21; exact kind_21 q σ
  by_cases h22 : s = [104, 53]
  · subst h22; exact kind_22 q σ
  by_cases h23 : s = [104, 54]
  · subst h23; exact kind_23 q σ
  by_cases h24 : s = [115, 112, 97, 110]
  · subst h24; exact kind_24 q σ
  by_cases h25 : s = [98]
  · subst h25; exact kind_25 q σ
  by_cases h26 : s = [105]
  · subst h26; exact kind_26 q σ
  by_cases h27 : s = [101, 109]
  · subst h27; exact kind_27 q σ
  by_cases h28 : s = [115, 116, 114, 111, 110, 103]
  · subst h28; exact kind_28 q σ
  by_cases h29 : s = [117]
  · subst h29; exact kind_29 q σ
  by_cases h30 : s = [115]
  · subst h30; exact kind_30 q σ
  by_cases h31 : s = [115, 109, 97, 108, 108]
  · subst h31; exact kind_31 q σ
  by_cases h32 : s = [99, 111, 100, 101]
  · subst h32; exact kind_32 q σ
  by_cases h33 : s = [98, 100, 105]
  · subst h33; exact kind_33 q σ
  by_cases h34 : s = [98, 100, 111]
  · subst h34; exact kind_34 q σ
  by_cases h35 : s = [97, 98, 98, 114]
  · subst h35; exact kind_35 q σ
  by_cases h36 : s = [99, 105, 116, 101]
  · subst h36; exact kind_36 q σ
  by_cases h37 : s = [113]
  · subst h37; exact kind_37 q σ
  by_cases h38 : s = [115, 117, 98]
  · subst h38; exact kind_38 q σ
  by_cases h39 : s = [115, 117, 112]
  · subst h39; exact kind_39 q σ
  by_cases h40 : s = [109, 97, 114, 107]
  · subst h40; exact kind_40 q σ
  rw [Cw_of fn40 q _ σ rfl]
  have hk : kindS s = 0 := by simp only [kindS, kindL, lookK, h0, h1, h2, h3, h4, h5, h6, h7, h8, h9, h10, h11, h12, h13, h14, h15, h16, h17, h18, h19, h20, h21, h22, h23, h24, h25, h26, h27, h28, h29, h30, h31, h32, h33, h34, h35, h36, h37, h38, h39, h40, if_false]
  rw [hk]
  simp only [c40, sC, reduceIte, Nat.reduceEqDiff, stepOp, opMov, opStrop, strop, sO, reduceCtorEq, sF, Nat.reduceAdd, h0, h1, h2, h3, h4, h5, h6, h7, h8, h9, h10, h11, h12, h13, h14, h15, h16, h17, h18, h19, h20, h21, h22, h23, h24, h25, h26, h27, h28, h29, h30, h31, h32, h33, h34, h35, h36, h37, h38, h39, h40]
  rfl

theorem int_le_cast {a b : Nat} : ((a : Int) ≤ (b : Int)) = (a ≤ b) := propext Int.ofNat_le

/-- What ends a paragraph. -/
def endsS (k : Nat) : Bool := decide (1 ≤ k ∧ k ≤ 4 ∨ k = 8)
theorem ends_ok (q : Bool) (k : Nat) (σ : St) : Cw TS q 68 [.int .u8 (k : Int)] σ = some (.bool (endsS k), σ) := by
  rw [Cw_of fn68 q _ σ rfl]
  by_cases h1 : (1 : Int) ≤ (k : Int)
  · by_cases h2 : (k : Int) ≤ 4
    · have : endsS k = true := by unfold endsS; simp; omega
      simp only [c68, sC, reduceIte, Nat.reduceEqDiff, stepOp, undefA, opMov, opPick, opArith, arith, sO, reduceCtorEq, sF, Nat.reduceAdd, h1, h2, this]
    · by_cases h3 : (k : Int) = 8
      · have : endsS k = true := by unfold endsS; simp; omega
        have h3 := eq_true h3
        simp only [c68, sC, reduceIte, Nat.reduceEqDiff, stepOp, opMov, opPick, opArith, arith, sO, reduceCtorEq, sF, Nat.reduceAdd, h1, h2, h3, this]
      · have : endsS k = false := by unfold endsS; simp; omega
        simp only [c68, sC, reduceIte, Nat.reduceEqDiff, stepOp, opMov, opPick, opArith, arith, sO, reduceCtorEq, sF, Nat.reduceAdd, h1, h2, h3, this]
  · have h3 : ¬ (k : Int) = 8 := by omega
    have : endsS k = false := by unfold endsS; simp; omega
    simp only [c68, sC, reduceIte, Nat.reduceEqDiff, stepOp, undefA, opMov, opPick, opArith, arith, sO, reduceCtorEq, sF, Nat.reduceAdd, h1, h3, this]

/-- What keeps items apart. -/
def wallS (s : List Nat) : Bool := decide (kindS s = 4 ∨ kindS s = 1 ∧ ¬ s = [100, 105, 118])
theorem wall_ok (q : Bool) (s : List Nat) (σ : St) : Cw TS q 69 [.str s] σ = some (.bool (wallS s), σ) := by
  rw [Cw_of fn69 q _ σ rfl]
  by_cases h1 : (kindS s : Int) = 4
  · have : wallS s = true := by unfold wallS; simp; omega
    have h1 := eq_true h1
    simp only [c69, sC, reduceIte, Nat.reduceEqDiff, stepOp, undefA, opMov, opPick, opArith, arith, sO, reduceCtorEq, sF, Nat.reduceAdd, opCall, argsOf, Kind_ok, h1, this]
  · by_cases h2 : (kindS s : Int) = 1
    · have h2' := eq_true h2
      by_cases h3 : s = [100, 105, 118]
      · have : wallS s = false := by unfold wallS; simp [h3]; decide
        have h3 := eq_true h3
        simp only [c69, sC, reduceIte, Nat.reduceEqDiff, stepOp, opMov, opPick, opArith, arith, opStrop, strop, sO, reduceCtorEq, sF, Nat.reduceAdd, opCall, argsOf, Kind_ok, h1, h2', h3, this]
      · have : wallS s = true := by unfold wallS; simp; right; exact ⟨by omega, h3⟩
        simp only [c69, sC, reduceIte, Nat.reduceEqDiff, stepOp, opMov, opPick, opArith, arith, opStrop, strop, sO, reduceCtorEq, sF, Nat.reduceAdd, opCall, argsOf, Kind_ok, h1, h2', h3, this]
    · have : wallS s = false := by unfold wallS; simp; omega
      simp only [c69, sC, reduceIte, Nat.reduceEqDiff, stepOp, undefA, opMov, opPick, opArith, arith, sO, reduceCtorEq, sF, Nat.reduceAdd, opCall, argsOf, Kind_ok, h1, h2, this]

/-- The letters of an attribute's name. -/
def namC (c : Nat) : Bool := decide (97 ≤ c ∧ c ≤ 122 ∨ 48 ≤ c ∧ c ≤ 57 ∨ c = 45 ∨ c = 95)
def namedS (s : List Nat) : Bool := s.all namC && decide (¬ s = [])

theorem named_loop (q : Bool) (s : List Nat) (hs : ∀ c ∈ s, c < 256) (hb : s.length < 9223372036854775808) : ∀ (m i : Nat) (env : Env) (σ : St) (r : Option (Out × Env × St)), Ew TS q (.loop L65_1) env σ = r → i + m = s.length →
    V env 0 = .str s → V env 6 = .int .i64 s.length → V env 7 = .int .i64 i →
    ∃ e, ((s.drop i).all namC = true ∧ r = some (.exit 0, e, σ) ∧ V e 0 = .str s) ∨ ((s.drop i).all namC = false ∧ r = some (.ret, e, σ) ∧ V e 2 = .bool false)
  | 0, i, env, σ, r, hr, hi, h0, h6, h7 => by
    have hlt : ¬ ((i : Int) < (s.length : Int)) := by omega
    rw [Ew_loop] at hr
    simp only [L65_1, sC, reduceIte, stepOp, opArith, arith, sO, h6, h7, hlt] at hr
    refine ⟨_, .inl ⟨?_, hr.symm, by simp only [V_U, Nat.reduceEqDiff, reduceIte, h0]⟩⟩
    rw [List.drop_eq_nil_of_le (by omega)]; rfl
  | m + 1, i, env, σ, r, hr, hi, h0, h6, h7 => by
    have hlt : ((i : Int) < (s.length : Int)) := by omega
    have his : i < s.length := by omega
    have hc := dropX_get his
    have hw : wrapI .i64 ((i : Int) + 1) = ((i + 1 : Nat) : Int) := by rw [wrap_i64 (by omega) (by omega)]; omega
    have key : (s.drop i).all namC = (namC s[i] && (s.drop (i + 1)).all namC) := by
      rw [List.drop_eq_getElem_cons his, List.all_cons]
    rw [key]
    rw [Ew_loop] at hr
    by_cases hn : namC s[i] = true
    · rw [hn, Bool.true_and]
      have hn' : 97 ≤ s[i] ∧ s[i] ≤ 122 ∨ 48 ≤ s[i] ∧ s[i] ≤ 57 ∨ s[i] = 45 ∨ s[i] = 95 := by simpa [namC] using hn
      rcases hn' with ⟨a, b⟩ | ⟨a, b⟩ | a | a
      · have a1 : ¬ (s[i] : Int) < 97 := by omega
        have a2 : ¬ 122 < (s[i] : Int) := by omega
        simp only [L65_1, sC, reduceIte, Nat.reduceEqDiff, stepOp, undefA, opMov, opPick, opArith, arith, sO, reduceCtorEq, opIxStr, h0, h6, h7, hlt, hc, hw, a1, a2] at hr
        exact named_loop q s hs hb m (i + 1) _ σ r hr (by omega) (by simp only [V_U, Nat.reduceEqDiff, reduceIte, h0]) (by simp only [V_U, Nat.reduceEqDiff, reduceIte, h6]) (by simp only [V_U, Nat.reduceEqDiff, reduceIte])
      · have a1 : (s[i] : Int) < 97 := by omega
        have a3 : ¬ (s[i] : Int) < 48 := by omega
        have a4 : ¬ 57 < (s[i] : Int) := by omega
        simp only [L65_1, sC, reduceIte, Nat.reduceEqDiff, stepOp, undefA, opMov, opPick, opArith, arith, sO, reduceCtorEq, opIxStr, h0, h6, h7, hlt, hc, hw, a1, a3, a4] at hr
        exact named_loop q s hs hb m (i + 1) _ σ r hr (by omega) (by simp only [V_U, Nat.reduceEqDiff, reduceIte, h0]) (by simp only [V_U, Nat.reduceEqDiff, reduceIte, h6]) (by simp only [V_U, Nat.reduceEqDiff, reduceIte])
      · have a1 : (s[i] : Int) < 97 := by omega
        have a3 : (s[i] : Int) < 48 := by omega
        have a5 := eq_true (show (s[i] : Int) = 45 by omega)
        simp only [L65_1, sC, reduceIte, Nat.reduceEqDiff, stepOp, undefA, opMov, opPick, opArith, arith, sO, reduceCtorEq, opIxStr, h0, h6, h7, hlt, hc, hw, a1, a3, a5] at hr
        exact named_loop q s hs hb m (i + 1) _ σ r hr (by omega) (by simp only [V_U, Nat.reduceEqDiff, reduceIte, h0]) (by simp only [V_U, Nat.reduceEqDiff, reduceIte, h6]) (by simp only [V_U, Nat.reduceEqDiff, reduceIte])
      · have a1 : (s[i] : Int) < 97 := by omega
        have a3 : ¬ (s[i] : Int) < 48 := by omega
        have a4 : 57 < (s[i] : Int) := by omega
        have a5 : ¬ (s[i] : Int) = 45 := by omega
        have a6 := eq_true (show (s[i] : Int) = 95 by omega)
        simp only [L65_1, sC, reduceIte, Nat.reduceEqDiff, stepOp, undefA, opMov, opPick, opArith, arith, sO, reduceCtorEq, opIxStr, h0, h6, h7, hlt, hc, hw, a1, a3, a4, a5, a6] at hr
        exact named_loop q s hs hb m (i + 1) _ σ r hr (by omega) (by simp only [V_U, Nat.reduceEqDiff, reduceIte, h0]) (by simp only [V_U, Nat.reduceEqDiff, reduceIte, h6]) (by simp only [V_U, Nat.reduceEqDiff, reduceIte])
    · have hn2 : namC s[i] = false := by simpa using hn
      rw [hn2, Bool.false_and]
      have hn' : ¬ (97 ≤ s[i] ∧ s[i] ≤ 122 ∨ 48 ≤ s[i] ∧ s[i] ≤ 57 ∨ s[i] = 45 ∨ s[i] = 95) := by simpa [namC] using hn
      have a5 : ¬ (s[i] : Int) = 45 := by omega
      have a6 : ¬ (s[i] : Int) = 95 := by omega
      by_cases b1 : (s[i] : Int) < 97
      · by_cases b2 : (s[i] : Int) < 48
        · simp only [L65_1, sC, reduceIte, Nat.reduceEqDiff, stepOp, undefA, opMov, opPick, opArith, arith, sO, reduceCtorEq, opIxStr, h0, h6, h7, hlt, hc, b1, b2, a5, a6] at hr
          exact ⟨_, .inr ⟨rfl, hr.symm, by simp only [V_U, Nat.reduceEqDiff, reduceIte]⟩⟩
        · have b3 : 57 < (s[i] : Int) := by omega
          simp only [L65_1, sC, reduceIte, Nat.reduceEqDiff, stepOp, undefA, opMov, opPick, opArith, arith, sO, reduceCtorEq, opIxStr, h0, h6, h7, hlt, hc, b1, b2, b3, a5, a6] at hr
          exact ⟨_, .inr ⟨rfl, hr.symm, by simp only [V_U, Nat.reduceEqDiff, reduceIte]⟩⟩
      · have b2 : ¬ (s[i] : Int) < 48 := by omega
        have b3 : 57 < (s[i] : Int) := by omega
        have b4 : 122 < (s[i] : Int) := by omega
        simp only [L65_1, sC, reduceIte, Nat.reduceEqDiff, stepOp, opMov, opPick, opArith, arith, sO, reduceCtorEq, opIxStr, h0, h6, h7, hlt, hc, b1, b2, b3, b4, a5, a6] at hr
        exact ⟨_, .inr ⟨rfl, hr.symm, by simp only [V_U, Nat.reduceEqDiff, reduceIte]⟩⟩

theorem named_ok (q : Bool) (s : List Nat) (σ : St) (hs : ∀ c ∈ s, c < 256) (hb : s.length < 9223372036854775808) :
    Cw TS q 65 [.str s] σ = some (.bool (namedS s), σ) := by
  rw [Cw_of fn65 q _ σ rfl]
  simp only [c65, sC, reduceIte, Nat.reduceEqDiff, stepOp, opMov, opStrop, strop, sO, reduceCtorEq, sF, Nat.reduceAdd]
  generalize hr : Ew TS q (.loop L65_1) _ σ = r
  obtain ⟨e, ⟨h1, rfl, h3⟩ | ⟨h1, rfl, h3⟩⟩ := named_loop q s hs hb s.length 0 _ σ r hr (by omega) (by simp only [V_U, Nat.reduceEqDiff, reduceIte]) (by simp only [V_U, Nat.reduceEqDiff, reduceIte]) (by simp only [V_U, Nat.reduceEqDiff, reduceIte]; rfl)
  · rw [List.drop_zero] at h1
    simp only [sC, reduceIte, Nat.reduceEqDiff, sF, h3, namedS, h1, Bool.true_and, decide_not]
  · rw [List.drop_zero] at h1
    simp only [sF, h3, namedS, h1, Bool.false_and]

/-- The place of a number. -/
def idxS (x : Int) : List Int → Nat → Int
  | [], _ => -1
  | y :: l, i => if x = y then (i : Int) else idxS x l (i + 1)

theorem index_loop (q : Bool) (v : AVal) (l : List Int) (x : Int) (hb : l.length < 9223372036854775808) : ∀ (m i : Nat) (env : Env) (σ : St) (r : Option (Out × Env × St)), Ew TS q (.loop L41_1) env σ = r → i + m = l.length → IntsI σ v l →
    V env 0 = v → V env 1 = .int .i64 x → V env 7 = .int .i64 l.length → V env 8 = .int .i64 i →
    ∃ e, (idxS x (l.drop i) i = -1 ∧ r = some (.exit 0, e, σ)) ∨ (r = some (.ret, e, σ) ∧ V e 4 = .int .i64 (idxS x (l.drop i) i))
  | 0, i, env, σ, r, hr, hi, hv, h0, h1, h7, h8 => by
    have hlt : ¬ ((i : Int) < (l.length : Int)) := by omega
    rw [Ew_loop] at hr
    simp only [L41_1, sC, reduceIte, stepOp, opArith, arith, sO, h7, h8, hlt] at hr
    refine ⟨_, .inl ⟨?_, hr.symm⟩⟩
    rw [List.drop_eq_nil_of_le (by omega)]; rfl
  | m + 1, i, env, σ, r, hr, hi, hv, h0, h1, h7, h8 => by
    have hlt : ((i : Int) < (l.length : Int)) := by omega
    have his : i < l.length := by omega
    obtain ⟨g1, g2⟩ := hv.get his (k := .i64)
    have hw : wrapI .i64 ((i : Int) + 1) = ((i + 1 : Nat) : Int) := by rw [wrap_i64 (by omega) (by omega)]; omega
    rw [List.drop_eq_getElem_cons his, idxS]
    rw [Ew_loop] at hr
    by_cases hx : x = l[i]
    · rw [if_pos hx]
      have hx := eq_true hx
      simp only [L41_1, sC, reduceIte, Nat.reduceEqDiff, stepOp, opMov, opArith, arith, sO, reduceCtorEq, h0, h1, h7, h8, hlt, opIaSl_s, opLoad_s, g1, g2, hx] at hr
      exact ⟨_, .inr ⟨hr.symm, by simp only [V_U, Nat.reduceEqDiff, reduceIte]⟩⟩
    · rw [if_neg hx]
      simp only [L41_1, sC, reduceIte, Nat.reduceEqDiff, stepOp, opMov, opArith, arith, sO, reduceCtorEq, h0, h1, h7, h8, hlt, opIaSl_s, opLoad_s, g1, g2, hx, hw] at hr
      exact index_loop q v l x hb m (i + 1) _ σ r hr (by omega) hv (by simp only [V_U, Nat.reduceEqDiff, reduceIte, h0]) (by simp only [V_U, Nat.reduceEqDiff, reduceIte, h1]) (by simp only [V_U, Nat.reduceEqDiff, reduceIte, h7]) (by simp only [V_U, Nat.reduceEqDiff, reduceIte])

theorem Index_ok (q : Bool) (v : AVal) (l : List Int) (x : Int) (σ : St) (hv : IntsI σ v l) (hb : l.length < 9223372036854775808) :
    Cw TS q 41 [v, .int .i64 x] σ = some (.int .i64 (idxS x l 0), σ) := by
  rw [Cw_of fn41 q _ σ rfl]
  have hl := SlI.len hv
  simp only [c41, sC, reduceIte, Nat.reduceEqDiff, stepOp, opMov, sO, Int.reduceNeg, reduceCtorEq, sF, Nat.reduceAdd, hl]
  generalize hr : Ew TS q (.loop L41_1) _ σ = r
  obtain ⟨e, ⟨h1, rfl⟩ | ⟨rfl, h3⟩⟩ := index_loop q v l x hb l.length 0 _ σ r hr (by omega) hv (by simp only [V_U, Nat.reduceEqDiff, reduceIte]) (by simp only [V_U, Nat.reduceEqDiff, reduceIte]) (by simp only [V_U, Nat.reduceEqDiff, reduceIte]) (by simp only [V_U, Nat.reduceEqDiff, reduceIte]; rfl)
  · rw [List.drop_zero] at h1
    simp only [sC, reduceIte, Int.reduceNeg, sF, h1]
  · rw [List.drop_zero] at h3
    simp only [sF, h3]

theorem Pick_ok (q : Bool) (a b : Int) (σ : St) (_ha : -9223372036854775808 ≤ a ∧ a < 9223372036854775808) (hb : b < 4611686018427387904) :
    Cw TS q 14 [.int .i64 a, .int .i64 b] σ = some (.int .i64 (if b ≤ 0 then 0 else (a.tmod b + b).tmod b), σ) := by
  rw [Cw_of fn14 q _ σ rfl]
  by_cases h : b ≤ 0
  · simp only [c14, sC, reduceIte, Nat.reduceEqDiff, stepOp, opMov, opArith, arith, sO, reduceCtorEq, sF, Nat.reduceAdd, h]
  · have hb0 : ¬ b = 0 := by omega
    have h1 : a.tmod b < b := by
      have := Int.tmod_lt_of_pos a (show 0 < b by omega); exact this
    have h2 : -b < a.tmod b := by
      have := Int.lt_tmod_of_pos a (show 0 < b by omega); exact this
    have hw : wrapI .i64 (a.tmod b + b) = a.tmod b + b := wrap_i64 (by omega) (by omega)
    simp only [c14, sC, reduceIte, Nat.reduceEqDiff, stepOp, opMov, opArith, arith, sO, reduceCtorEq, sF, Nat.reduceAdd, h, hb0, hw]
end Go.Ab.Dirs
end
