/- utf8.ValidString, strings.IndexByte, well. -/
import Derived.Test.YthbanbnmomcohaaGreatDoorP2
import Derived.Test.YthbanbnmomcohaaGreatDoorA8
set_option maxRecDepth 10000
noncomputable section
namespace Go.Ab.Dirs
open Go Go.Ab

/-! Bits. -/
def tb (x : Int) (k : Nat) : Bool := (BitVec.ofInt 64 x).getLsbD k
theorem wrap_toNat (v : BitVec 64) : wrapI .u64 ((v.toNat : Nat) : Int) = (v.toNat : Int) := wrap_u64 (by omega) (by have := v.isLt; omega)
theorem ofInt_toNat (v : BitVec 64) : BitVec.ofInt 64 (v.toNat : Int) = v := by
  rw [BitVec.ofInt_natCast, BitVec.ofNat_toNat, BitVec.setWidth_eq]
theorem tb_or (x y : Int) (k : Nat) : tb (wrapI .u64 (((BitVec.ofInt 64 x ||| BitVec.ofInt 64 y).toNat : Nat) : Int)) k = (tb x k || tb y k) := by
  unfold tb; rw [wrap_toNat, ofInt_toNat, BitVec.getLsbD_or]
theorem tb_and (x y : Int) (k : Nat) : tb (wrapI .u64 (((BitVec.ofInt 64 x &&& BitVec.ofInt 64 y).toNat : Nat) : Int)) k = (tb x k && tb y k) := by
  unfold tb; rw [wrap_toNat, ofInt_toNat, BitVec.getLsbD_and]
theorem tb_zero (k : Nat) : tb 0 k = false := by unfold tb; simp
theorem tb_nat (c k : Nat) (h : k < 64) : tb (c : Int) k = c.testBit k := by
  unfold tb; rw [BitVec.ofInt_natCast, BitVec.getLsbD_ofNat]; simp [h]
theorem tb_shl (c n : Nat) (h : n + 7 < 64) : tb ((c * 2 ^ n : Nat) : Int) (n + 7) = c.testBit 7 := by
  rw [tb_nat _ _ h, Nat.testBit_mul_two_pow]; simp
theorem bit7 {c : Nat} (hc : c < 256) (h : c.testBit 7 = false) : c < 128 := by
  have : ∀ c, c < 256 → c.testBit 7 = false → c < 128 := by decide
  exact this c hc h

/-- Eight bytes as a number. -/
def wOr (x y : Int) : Int := wrapI .u64 (((BitVec.ofInt 64 x ||| BitVec.ofInt 64 y).toNat : Nat) : Int)
def wordS (s : List Nat) : Int := wOr (wOr (wOr (wOr (wOr (wOr (wOr ((s.getD 0 0 : Nat) : Int) ((s.getD 1 0 * 2 ^ 8 : Nat) : Int)) ((s.getD 2 0 * 2 ^ 16 : Nat) : Int)) ((s.getD 3 0 * 2 ^ 24 : Nat) : Int)) ((s.getD 4 0 * 2 ^ 32 : Nat) : Int)) ((s.getD 5 0 * 2 ^ 40 : Nat) : Int)) ((s.getD 6 0 * 2 ^ 48 : Nat) : Int)) ((s.getD 7 0 * 2 ^ 56 : Nat) : Int)
def hiAnd (x : Int) : Int := wrapI .u64 (((BitVec.ofInt 64 x &&& BitVec.ofInt 64 9259542123273814144).toNat : Nat) : Int)

theorem tb_wOr (x y : Int) (k : Nat) : tb (wOr x y) k = (tb x k || tb y k) := tb_or x y k
/-- A number whose high bits are none. -/
def NoHi (x : Int) : Prop := ∀ n, n < 8 → tb x (n * 8 + 7) = false
theorem hi_zero {x : Int} (h : hiAnd x = 0) : NoHi x := by
  intro n hn
  have h1 : tb (hiAnd x) (n * 8 + 7) = false := by rw [h]; exact tb_zero _
  have h2 := tb_and x 9259542123273814144 (n * 8 + 7)
  have h3 : tb 9259542123273814144 (n * 8 + 7) = true := by
    have : ∀ n, n < 8 → tb 9259542123273814144 (n * 8 + 7) = true := by decide +kernel
    exact this n hn
  rw [h3, Bool.and_true] at h2
  rw [← h2]; exact h1
theorem NoHi.or {x y : Int} (h : NoHi (wOr x y)) : NoHi x ∧ NoHi y := by
  constructor <;> intro n hn <;> have := h n hn <;> rw [tb_wOr, Bool.or_eq_false_iff] at this
  · exact this.1
  · exact this.2
theorem word_ascii {s : List Nat} (hs : ∀ c ∈ s, c < 256) (hl : 8 ≤ s.length) (h : NoHi (wordS s)) : ∀ i, i < 8 → s.getD i 0 < 128 := by
  have hb : ∀ i, i < 8 → s.getD i 0 < 256 := by
    intro i hi
    rw [List.getD_eq_getElem?_getD, List.getElem?_eq_getElem (by omega)]
    exact hs _ (List.getElem_mem _)
  have key : ∀ n, n < 8 → tb (wordS s) (n * 8 + 7) = false → ∀ i, i = n → s.getD i 0 < 128 := by
    intro n hn h0 i hi
    subst hi
    unfold wordS at h0
    simp only [tb_wOr, Bool.or_eq_false_iff] at h0
    obtain ⟨⟨⟨⟨⟨⟨⟨a0, a1⟩, a2⟩, a3⟩, a4⟩, a5⟩, a6⟩, a7⟩ := h0
    have hcases : i = 0 ∨ i = 1 ∨ i = 2 ∨ i = 3 ∨ i = 4 ∨ i = 5 ∨ i = 6 ∨ i = 7 := by omega
    rcases hcases with rfl | rfl | rfl | rfl | rfl | rfl | rfl | rfl
    · rw [show 0 * 8 + 7 = 7 from rfl, tb_nat _ _ (by omega)] at a0; exact bit7 (hb 0 (by omega)) a0
    · rw [show 1 * 8 + 7 = 8 + 7 from rfl, tb_shl _ _ (by omega)] at a1; exact bit7 (hb 1 (by omega)) a1
    · rw [show 2 * 8 + 7 = 16 + 7 from rfl, tb_shl _ _ (by omega)] at a2; exact bit7 (hb 2 (by omega)) a2
    · rw [show 3 * 8 + 7 = 24 + 7 from rfl, tb_shl _ _ (by omega)] at a3; exact bit7 (hb 3 (by omega)) a3
    · rw [show 4 * 8 + 7 = 32 + 7 from rfl, tb_shl _ _ (by omega)] at a4; exact bit7 (hb 4 (by omega)) a4
    · rw [show 5 * 8 + 7 = 40 + 7 from rfl, tb_shl _ _ (by omega)] at a5; exact bit7 (hb 5 (by omega)) a5
    · rw [show 6 * 8 + 7 = 48 + 7 from rfl, tb_shl _ _ (by omega)] at a6; exact bit7 (hb 6 (by omega)) a6
    · rw [show 7 * 8 + 7 = 56 + 7 from rfl, tb_shl _ _ (by omega)] at a7; exact bit7 (hb 7 (by omega)) a7
  intro i hi
  exact key i hi (h i hi) i rfl

theorem ixStr_nat {x i : Opd} {T : Tab} {env : Env} {σ : St} {s : List Nat} {k : IntKind} {n : Nat} (hx : x.ev T env = .str s) (hi : i.ev T env = .int k (n : Int)) (hn : n < s.length) : opIxStr T x i env σ = some (.int .u8 ((s.getD n 0 : Nat) : Int), σ) := by
  unfold opIxStr
  simp only [hx, hi, Int.toNat_natCast, if_pos (Int.natCast_nonneg n), dropX_get hn, List.getD_eq_getElem?_getD, List.getElem?_eq_getElem hn, Option.getD_some, Int.ofNat_eq_natCast]

/-- A byte at a place of a string. -/
def ixC (v i : AVal) : Option AVal := match v, i with
  | .str s, .int _ i => if 0 ≤ i then (match dropX i.toNat s with | some (c :: _) => some (.int .u8 (Int.ofNat c)) | _ => none) else none
  | _, _ => none
theorem opIxStr_s {T : Tab} {x i : Opd} {env : Env} {σ : St} : opIxStr T x i env σ = (match ixC (x.ev T env) (i.ev T env) with | some v => some (v, σ) | none => none) := by
  unfold opIxStr ixC
  cases x.ev T env <;> try rfl
  rename_i s
  cases i.ev T env <;> try rfl
  rename_i k n
  simp only
  split
  · generalize dropX n.toNat s = o
    cases o with
    | none => rfl
    | some l => cases l <;> rfl
  · rfl
theorem ixC_at {s : List Nat} {k : IntKind} {n : Nat} (hn : n < s.length) : ixC (.str s) (.int k (n : Int)) = some (.int .u8 ((s.getD n 0 : Nat) : Int)) := by
  unfold ixC
  simp only [Int.toNat_natCast, if_pos (Int.natCast_nonneg n), dropX_get hn, List.getD_eq_getElem?_getD, List.getElem?_eq_getElem hn, Option.getD_some, Int.ofNat_eq_natCast]

theorem word_ok (q : Bool) (s : List Nat) (σ : St) (hs : ∀ c ∈ s, c < 256) (hl : 8 ≤ s.length) : Cw TS q 92 [.str s] σ = some (.int .u64 (wordS s), σ) := by
  have hb : ∀ i, s.getD i 0 < 256 := by
    intro i
    rw [List.getD_eq_getElem?_getD]
    by_cases h : i < s.length
    · rw [List.getElem?_eq_getElem h]; exact hs _ (List.getElem_mem _)
    · rw [List.getElem?_eq_none (by omega)]; decide
  have c0 := ixC_at (s := s) (k := .i64) (n := 0) (by omega)
  have c1 := ixC_at (s := s) (k := .i64) (n := 1) (by omega)
  have c2 := ixC_at (s := s) (k := .i64) (n := 2) (by omega)
  have c3 := ixC_at (s := s) (k := .i64) (n := 3) (by omega)
  have c4 := ixC_at (s := s) (k := .i64) (n := 4) (by omega)
  have c5 := ixC_at (s := s) (k := .i64) (n := 5) (by omega)
  have c6 := ixC_at (s := s) (k := .i64) (n := 6) (by omega)
  have c7 := ixC_at (s := s) (k := .i64) (n := 7) (by omega)
  have w : ∀ i, wrapI .u64 ((s.getD i 0 : Nat) : Int) = ((s.getD i 0 : Nat) : Int) := fun i => wrap_u64 (by omega) (by have := hb i; omega)
  have sh : ∀ i (n : Nat), n ≤ 56 → shiftI .shl .u64 ((s.getD i 0 : Nat) : Int) (n : Int) = some (.int .u64 ((s.getD i 0 * 2 ^ n : Nat) : Int)) := by
    intro i n hn
    unfold shiftI
    rw [if_neg (by omega)]
    simp only [Int.toNat_natCast]
    have : min n (IntKind.bits .u64) = n := by simp only [IntKind.bits]; omega
    rw [this]
    have h2 : s.getD i 0 * 2 ^ n < 256 * 2 ^ 56 := by
      apply Nat.lt_of_lt_of_le (Nat.mul_lt_mul_of_pos_right (hb i) (Nat.two_pow_pos n))
      exact Nat.mul_le_mul_left _ (Nat.pow_le_pow_right (by omega) hn)
    have e : ((s.getD i 0 : Nat) : Int) * 2 ^ n = ((s.getD i 0 * 2 ^ n : Nat) : Int) := by
      rw [Int.natCast_mul, Int.natCast_pow]; rfl
    rw [e, wrap_u64 (by omega) (by have : (256 * 2 ^ 56 : Nat) = 18446744073709551616 := by decide
                                   omega)]
  have s1 := sh 1 8 (by omega)
  have s2 := sh 2 16 (by omega)
  have s3 := sh 3 24 (by omega)
  have s4 := sh 4 32 (by omega)
  have s5 := sh 5 40 (by omega)
  have s6 := sh 6 48 (by omega)
  have s7 := sh 7 56 (by omega)
  simp only [Int.cast_ofNat_Int] at c0 c1 c2 c3 c4 c5 c6 c7 s1 s2 s3 s4 s5 s6 s7
  rw [Cw_of fn92 q _ σ rfl]
  simp only [c92, sC, reduceIte, Nat.reduceEqDiff, stepOp, sD, sF, Nat.reduceAdd, opMov, opIxStr_s, opToInt, opArith, arith, intArith, c0, c1, c2, c3, c4, c5, c6, c7, s1, s2, s3, s4, s5, s6, s7, w, IntKind.bits]
  rfl
end Go.Ab.Dirs
end
