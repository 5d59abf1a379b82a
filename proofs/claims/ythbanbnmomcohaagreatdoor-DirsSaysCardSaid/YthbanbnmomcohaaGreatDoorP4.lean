/- utf8.ValidString. -/
import Derived.Test.YthbanbnmomcohaaGreatDoorP3
set_option maxRecDepth 10000
noncomputable section
namespace Go.Ab.Dirs
open Go Go.Ab

/-- What a first byte asks: how many bytes, and where the second one lies. -/
def accS (a : Nat) : Option (Nat × Nat × Nat) :=
  if a < 194 then none else if a ≤ 223 then some (2, 128, 191) else if a = 224 then some (3, 160, 191) else if a ≤ 236 then some (3, 128, 191)
  else if a = 237 then some (3, 128, 159) else if a ≤ 239 then some (3, 128, 191) else if a = 240 then some (4, 144, 191) else if a ≤ 243 then some (4, 128, 191)
  else if a = 244 then some (4, 128, 143) else none
/-- How many bytes the first character has, if it is well-formed. -/
def cutS (s : List Nat) : Option Nat :=
  if s.getD 0 0 < 128 then some 1 else
  match accS (s.getD 0 0) with
  | none => none
  | some (n, lo, hi) => if n ≤ s.length ∧ lo ≤ s.getD 1 0 ∧ s.getD 1 0 ≤ hi ∧ (3 ≤ n → 128 ≤ s.getD 2 0 ∧ s.getD 2 0 ≤ 191) ∧ (4 ≤ n → 128 ≤ s.getD 3 0 ∧ s.getD 3 0 ≤ 191) then some n else none
def validS : List Nat → Bool
  | [] => true
  | a :: l => match cutS (a :: l) with
    | none => false
    | some n => validS (l.drop (n - 1))
  termination_by s => s.length
  decreasing_by simp; omega

theorem validS_nil : validS [] = true := by unfold validS; rfl
theorem validS_none {s : List Nat} (hs : 0 < s.length) (h : cutS s = none) : validS s = false := by
  cases s with
  | nil => simp at hs
  | cons a l => unfold validS; rw [h]
theorem validS_some {s : List Nat} {n : Nat} (hs : 0 < s.length) (hn : 0 < n) (h : cutS s = some n) : validS s = validS (s.drop n) := by
  cases s with
  | nil => simp at hs
  | cons a l =>
    rw [validS, h]
    simp only
    obtain ⟨m, rfl⟩ : ∃ m, n = m + 1 := ⟨n - 1, by omega⟩
    simp
theorem validS_ascii {s : List Nat} (hs : 0 < s.length) (h : s.getD 0 0 < 128) : validS s = validS (s.drop 1) :=
  validS_some hs (by omega) (by unfold cutS; rw [if_pos h])
theorem validS_asciis : ∀ (k : Nat) (s : List Nat), k ≤ s.length → (∀ i, i < k → s.getD i 0 < 128) → validS s = validS (s.drop k)
  | 0, s, _, _ => by simp
  | k + 1, s, hk, h => by
    rw [validS_ascii (by omega) (h 0 (by omega)), validS_asciis k (s.drop 1) (by simp; omega) ?_, List.drop_drop, Nat.add_comm]
    intro i hi
    have := h (i + 1) (by omega)
    rw [List.getD_eq_getElem?_getD] at this ⊢
    rw [List.getElem?_drop, Nat.add_comm]
    exact this

theorem drop_bytes {s : List Nat} (hs : ∀ c ∈ s, c < 256) (n : Nat) : ∀ c ∈ s.drop n, c < 256 := fun c hc => hs c (List.mem_of_mem_drop hc)

theorem sfrom_nat {s : List Nat} {k : IntKind} {n : Nat} (hn : n ≤ s.length) : sfrom (.str s) (.int k (n : Int)) = some (.str (s.drop n)) := by
  unfold sfrom; simp only [Int.toNat_natCast]; rw [if_pos ⟨by omega, by omega⟩]

theorem word_valid {s : List Nat} (hs : ∀ c ∈ s, c < 256) (hl : 8 ≤ s.length) (h : NoHi (wordS s)) : validS s = validS (s.drop 8) :=
  validS_asciis 8 s hl (word_ascii hs hl h)

theorem ia_or64 (x y : Int) : intArith .or .u64 x y = some (.int .u64 (wOr x y)) := rfl
theorem ia_hi64 (x : Int) : intArith .and .u64 x 9259542123273814144 = some (.int .u64 (hiAnd x)) := rfl

/-- The inner loop passes over bytes below 128. -/
theorem valid_in : ∀ (m : Nat) (s : List Nat) (env : Env) (σ : St) (r : Option (Out × Env × St)), s.length ≤ m → (∀ c ∈ s, c < 256) → s.length < 9223372036854775808 → Ew TS false (.loop L64_1) env σ = r → V env 0 = .str s →
    ∃ e s', r = some (.exit 2, e, σ) ∧ V e 0 = .str s' ∧ validS s' = validS s ∧ s'.length ≤ s.length ∧ (∀ c ∈ s', c < 256)
  | 0, s, env, σ, r, hm, hs, hb, hr, h0 => by
    have hlt : ¬ ((32 : Int) < (s.length : Int)) := by omega
    rw [Ew_loop] at hr
    simp only [L64_1, sC, reduceIte, Nat.reduceEqDiff, stepOp, undefA, opMov, opPick, opArith, arith, sO, sD, h0, hlt] at hr
    exact ⟨_, s, hr.symm, by simp only [V_U, Nat.reduceEqDiff, reduceIte, h0], rfl, Nat.le_refl _, hs⟩
  | m + 1, s, env, σ, r, hm, hs, hb, hr, h0 => by
    rw [Ew_loop] at hr
    by_cases hlt : (32 : Int) < (s.length : Int)
    · have f8 := sfrom_nat (s := s) (k := .i64) (n := 8) (by omega)
      have f16 := sfrom_nat (s := s) (k := .i64) (n := 16) (by omega)
      have f24 := sfrom_nat (s := s) (k := .i64) (n := 24) (by omega)
      have f32 := sfrom_nat (s := s) (k := .i64) (n := 32) (by omega)
      have w0 := word_ok true s σ hs (by omega)
      have w8 := word_ok true (s.drop 8) σ (drop_bytes hs 8) (by simp; omega)
      have w16 := word_ok true (s.drop 16) σ (drop_bytes hs 16) (by simp; omega)
      have w24 := word_ok true (s.drop 24) σ (drop_bytes hs 24) (by simp; omega)
      simp only [Int.cast_ofNat_Int] at f8 f16 f24 f32
      by_cases hz : hiAnd (wOr (wOr (wordS s) (wordS (s.drop 8))) (wOr (wordS (s.drop 16)) (wordS (s.drop 24)))) = 0
      · have hz' := eq_true hz
        simp only [L64_1, sC, reduceIte, Nat.reduceEqDiff, stepOp, opMov, opPick, opArith, arith, sO, reduceCtorEq, sD, h0, hlt, opCall, argsOf, opSlStr_from, f8, f16, f24, f32, w0, w8, w16, w24, ia_or64, ia_hi64, hz'] at hr
        have hn := hi_zero hz
        obtain ⟨n1, n2⟩ := hn.or
        obtain ⟨a, b⟩ := n1.or
        obtain ⟨c, d⟩ := n2.or
        have v1 := word_valid hs (by omega) a
        have v2 := word_valid (drop_bytes hs 8) (by simp; omega) b
        have v3 := word_valid (drop_bytes hs 16) (by simp; omega) c
        have v4 := word_valid (drop_bytes hs 24) (by simp; omega) d
        simp only [List.drop_drop, Nat.reduceAdd] at v2 v3 v4
        obtain ⟨e, s', g1, g2, g3, g4, g5⟩ := valid_in m (s.drop 32) _ σ r (by simp; omega) (drop_bytes hs 32) (by simp; omega) hr (by simp only [V_U, Nat.reduceEqDiff, reduceIte])
        exact ⟨e, s', g1, g2, by rw [g3, v1, v2, v3, v4], Nat.le_trans g4 (by simp), g5⟩
      · simp only [L64_1, sC, reduceIte, Nat.reduceEqDiff, stepOp, opMov, opPick, opArith, arith, sO, reduceCtorEq, sD, h0, hlt, opCall, argsOf, opSlStr_from, f8, f16, f24, w0, w8, w16, w24, ia_or64, ia_hi64, hz] at hr
        exact ⟨_, s, hr.symm, by simp only [V_U, Nat.reduceEqDiff, reduceIte, h0], rfl, Nat.le_refl _, hs⟩
    · simp only [L64_1, sC, reduceIte, Nat.reduceEqDiff, stepOp, undefA, opMov, opPick, opArith, arith, sO, sD, h0, hlt] at hr
      exact ⟨_, s, hr.symm, by simp only [V_U, Nat.reduceEqDiff, reduceIte, h0], rfl, Nat.le_refl _, hs⟩
end Go.Ab.Dirs
end
