/- utf8.ValidString: its loop. -/
import Derived.Test.YthbanbnmomcohaaGreatDoorP4
set_option maxRecDepth 10000
noncomputable section
namespace Go.Ab.Dirs
open Go Go.Ab

/-- The table of first bytes. -/
def xS (a : Nat) : Nat :=
  if a < 128 then 240 else if a < 194 then 241 else if a ≤ 223 then 2 else if a = 224 then 19 else if a ≤ 236 then 3 else if a = 237 then 35 else if a ≤ 239 then 3
  else if a = 240 then 52 else if a ≤ 243 then 4 else if a = 244 then 68 else 241
theorem g0_eq : g0 = (List.range 256).map fun a => .int .u8 (Int.ofNat (xS a)) := eqAs_eq _ _ (by decide +kernel)
theorem g0_at (σ : St) (a : Nat) (ha : a < 256) : ∃ r, ixA 256 1 (.rptr g0) (.int .u8 (a : Int)) = some (.rptr r) ∧ ldA σ none (.rptr r) = some (.int .u8 ((xS a : Nat) : Int)) := by
  have hl : g0.length = 256 := by rw [g0_eq]; simp
  refine ⟨_, ixA_r ha (by rw [hl]; omega), ?_⟩
  rw [Nat.mul_one, List.drop_eq_getElem_cons (by rw [hl]; exact ha)]
  rw [ldA_r, loadL_none]
  have : ∀ (l : List AVal) (h : a < l.length), l = (List.range 256).map (fun a => AVal.int .u8 (Int.ofNat (xS a))) → l[a] = .int .u8 ((xS a : Nat) : Int) := by
    intro l h e; subst e; simp
  rw [this g0 _ g0_eq]
theorem ev_g0 (env : Env) : Opd.ev TS env (.g 0) = .rptr g0 := by kernel_rfl
theorem ev_g1 (env : Env) : Opd.ev TS env (.g 1) = .rptr g1 := by kernel_rfl
theorem g1_at (σ : St) (k lo hi : Nat) (rest : List AVal) (hk : k < 16) (h : g1.drop (k * 2) = .int .u8 (lo : Int) :: .int .u8 (hi : Int) :: rest) : ∃ r, ixA 16 2 (.rptr g1) (.int .u8 (k : Int)) = some (.rptr r) ∧ ldA σ (some 2) (.rptr r) = some (.agg [.int .u8 (lo : Int), .int .u8 (hi : Int)]) := by
  have hl : g1.length = 32 := by kernel_rfl
  refine ⟨_, ixA_r hk (by rw [hl]; omega), ?_⟩
  rw [h, ldA_r, loadL_2]

theorem ev_t' (T : Tab) (env : Env) (k : Nat) : Opd.ev T env (.t (path k)) = V env k := rfl

def strV (v : AVal) : List Nat := match v with | .str s => s | _ => []

/-- What a first byte's class is in the tables. -/
structure Cls (x sz ai lo hi : Nat) : Prop where
  and : intArith .and .u8 (x : Int) 7 = some (.int .u8 (sz : Int))
  shr : shiftI .shr .u8 (x : Int) 4 = some (.int .u8 (ai : Int))
  acc : ∀ σ, ∃ r, ixA 16 2 (.rptr g1) (.int .u8 (ai : Int)) = some (.rptr r) ∧ ldA σ (some 2) (.rptr r) = some (.agg [.int .u8 (lo : Int), .int .u8 (hi : Int)])
  wr : wrapI .i64 (sz : Int) = (sz : Int)
theorem cls241 : Cls 241 1 15 0 0 := ⟨by kernel_rfl, by kernel_rfl, fun σ => g1_at σ 15 0 0 (g1.drop 32) (by decide) (by kernel_rfl), wrap_i64 (by decide) (by decide)⟩
theorem cls2 : Cls 2 2 0 128 191 := ⟨by kernel_rfl, by kernel_rfl, fun σ => g1_at σ 0 128 191 (g1.drop 2) (by decide) (by kernel_rfl), wrap_i64 (by decide) (by decide)⟩
theorem cls19 : Cls 19 3 1 160 191 := ⟨by kernel_rfl, by kernel_rfl, fun σ => g1_at σ 1 160 191 (g1.drop 4) (by decide) (by kernel_rfl), wrap_i64 (by decide) (by decide)⟩
theorem cls3 : Cls 3 3 0 128 191 := ⟨by kernel_rfl, by kernel_rfl, fun σ => g1_at σ 0 128 191 (g1.drop 2) (by decide) (by kernel_rfl), wrap_i64 (by decide) (by decide)⟩
theorem cls35 : Cls 35 3 2 128 159 := ⟨by kernel_rfl, by kernel_rfl, fun σ => g1_at σ 2 128 159 (g1.drop 6) (by decide) (by kernel_rfl), wrap_i64 (by decide) (by decide)⟩
theorem cls52 : Cls 52 4 3 144 191 := ⟨by kernel_rfl, by kernel_rfl, fun σ => g1_at σ 3 144 191 (g1.drop 8) (by decide) (by kernel_rfl), wrap_i64 (by decide) (by decide)⟩
theorem cls4 : Cls 4 4 0 128 191 := ⟨by kernel_rfl, by kernel_rfl, fun σ => g1_at σ 0 128 191 (g1.drop 2) (by decide) (by kernel_rfl), wrap_i64 (by decide) (by decide)⟩
theorem cls68 : Cls 68 4 4 128 143 := ⟨by kernel_rfl, by kernel_rfl, fun σ => g1_at σ 4 128 143 (g1.drop 10) (by decide) (by kernel_rfl), wrap_i64 (by decide) (by decide)⟩

section
variable {s : List Nat} {env : Env} {σ : St} {r : Option (Out × Env × St)}

theorem valid_bad {x ai lo hi : Nat} (hc : Cls x 1 ai lo hi) (hx : xS (s.getD 0 0) = x) (hs : ∀ c ∈ s, c < 256) (hl : 0 < s.length) (hr : Ew TS false (.loop L64_2) env σ = r) (h0 : V env 0 = .str s) (h128 : ¬ s.getD 0 0 < 128) :
    ∃ e σ', Fr σ σ' ∧ r = some (.ret, e, σ') ∧ V e 2 = .bool false := by
  have hpos : (0 : Int) < (s.length : Int) := by omega
  have hb : s.getD 0 0 < 256 := by rw [List.getD_eq_getElem?_getD, List.getElem?_eq_getElem hl]; exact hs _ (List.getElem_mem _)
  have c0 := ixC_at (s := s) (k := .i64) (n := 0) hl
  obtain ⟨rr, t1, t2⟩ := g0_at σ (s.getD 0 0) hb
  obtain ⟨r2, a1, a2⟩ := hc.acc σ
  have hwr := hc.wr
  have hand := hc.and
  simp only [Int.cast_ofNat_Int] at c0 hwr hand
  rw [hx] at t2
  have ha : ¬ ((s.getD 0 0 : Nat) : Int) < 128 := by omega
  rw [Ew_loop] at hr
  simp only [L64_2, sC, reduceIte, Nat.reduceEqDiff, stepOp, undefA, opMov, opArith, arith, opToInt, sO, Int.reduceEq, reduceCtorEq, Nat.reduceAdd, opAlloc, allOne, sM, h0, hpos, c0, ha, opIxStr_s, opIaArr_s, ev_g0, ev_g1, t1, t2, hc.shr, a1, a2, hwr, hand] at hr
  exact ⟨_, _, (Fr.new _ _).put (Nat.le_refl _) _, hr.symm, by simp only [V_U, Nat.reduceEqDiff, reduceIte]⟩

theorem valid_2 {x ai lo hi : Nat} (hc : Cls x 2 ai lo hi) (hx : xS (s.getD 0 0) = x) (hs : ∀ c ∈ s, c < 256) (hl : 0 < s.length) (hr : Ew TS false (.loop L64_2) env σ = r) (h0 : V env 0 = .str s) (h128 : ¬ s.getD 0 0 < 128) :
    ∃ e σ', Fr σ σ' ∧ ((¬ (2 ≤ s.length ∧ lo ≤ s.getD 1 0 ∧ s.getD 1 0 ≤ hi) ∧ r = some (.ret, e, σ') ∧ V e 2 = .bool false) ∨
      ((2 ≤ s.length ∧ lo ≤ s.getD 1 0 ∧ s.getD 1 0 ≤ hi) ∧ Ew TS false (.loop L64_2) e σ' = r ∧ V e 0 = .str (s.drop 2))) := by
  have hpos : (0 : Int) < (s.length : Int) := by omega
  have hb : s.getD 0 0 < 256 := by rw [List.getD_eq_getElem?_getD, List.getElem?_eq_getElem hl]; exact hs _ (List.getElem_mem _)
  have c0 := ixC_at (s := s) (k := .i64) (n := 0) hl
  obtain ⟨rr, t1, t2⟩ := g0_at σ (s.getD 0 0) hb
  obtain ⟨r2, a1, a2⟩ := hc.acc σ
  have hwr := hc.wr
  have hand := hc.and
  simp only [Int.cast_ofNat_Int] at c0 hwr hand
  rw [hx] at t2
  have ha : ¬ ((s.getD 0 0 : Nat) : Int) < 128 := by omega
  rw [Ew_loop] at hr
  by_cases k0 : (s.length : Int) < 2
  · simp only [L64_2, sC, reduceIte, Nat.reduceEqDiff, stepOp, undefA, opMov, opPick, opArith, arith, opToInt, sO, reduceCtorEq, Nat.reduceAdd, sD, opAlloc, allOne, sM, h0, hpos, c0, ha, opIxStr_s, opIaArr_s, ev_g0, ev_g1, t1, t2, hc.shr, a1, a2, hwr, hand, k0] at hr
    exact ⟨_, _, (Fr.new _ _).put (Nat.le_refl _) _, .inl ⟨by omega, hr.symm, by simp only [V_U, Nat.reduceEqDiff, reduceIte]⟩⟩
  have c1 := ixC_at (s := s) (k := .i64) (n := 1) (by omega)
  simp only [Int.cast_ofNat_Int] at c1
  by_cases k1 : ((s.getD 1 0 : Nat) : Int) < (lo : Int)
  · simp only [L64_2, sC, reduceIte, Nat.reduceEqDiff, stepOp, undefA, opMov, opPick, opArith, arith, opToInt, sO, reduceCtorEq, Nat.reduceAdd, sD, opAlloc, allOne, sM, h0, hpos, c0, ha, opIxStr_s, opIaArr_s, ev_g0, ev_g1, t1, t2, hc.shr, a1, a2, hwr, hand, k0, c1, k1] at hr
    exact ⟨_, _, (Fr.new _ _).put (Nat.le_refl _) _, .inl ⟨by omega, hr.symm, by simp only [V_U, Nat.reduceEqDiff, reduceIte]⟩⟩
  by_cases k2 : (hi : Int) < ((s.getD 1 0 : Nat) : Int)
  · simp only [L64_2, sC, reduceIte, Nat.reduceEqDiff, stepOp, undefA, opMov, opPick, opArith, arith, opToInt, sO, reduceCtorEq, Nat.reduceAdd, sD, opAlloc, allOne, sM, h0, hpos, c0, ha, opIxStr_s, opIaArr_s, ev_g0, ev_g1, t1, t2, hc.shr, a1, a2, hwr, hand, k0, c1, k1, k2] at hr
    exact ⟨_, _, (Fr.new _ _).put (Nat.le_refl _) _, .inl ⟨by omega, hr.symm, by simp only [V_U, Nat.reduceEqDiff, reduceIte]⟩⟩
  have f := sfrom_nat (s := s) (k := .i64) (n := 2) (by omega)
  simp only [Int.cast_ofNat_Int] at f
  simp only [L64_2, sC, reduceIte, Nat.reduceEqDiff, stepOp, undefA, opMov, opPick, opArith, arith, opToInt, sO, reduceCtorEq, Nat.reduceAdd, sD, opAlloc, allOne, sM, h0, hpos, c0, ha, opSlStr_from, opIxStr_s, opIaArr_s, ev_g0, ev_g1, t1, t2, hc.shr, a1, a2, hwr, hand, k0, c1, k1, k2, f] at hr
  exact ⟨_, _, (Fr.new _ _).put (Nat.le_refl _) _, .inr ⟨by omega, hr, by simp only [V_U, Nat.reduceEqDiff, reduceIte]⟩⟩

theorem valid_3 {x ai lo hi : Nat} (hc : Cls x 3 ai lo hi) (hx : xS (s.getD 0 0) = x) (hs : ∀ c ∈ s, c < 256) (hl : 0 < s.length) (hr : Ew TS false (.loop L64_2) env σ = r) (h0 : V env 0 = .str s) (h128 : ¬ s.getD 0 0 < 128) :
    ∃ e σ', Fr σ σ' ∧ ((¬ (3 ≤ s.length ∧ lo ≤ s.getD 1 0 ∧ s.getD 1 0 ≤ hi ∧ 128 ≤ s.getD 2 0 ∧ s.getD 2 0 ≤ 191) ∧ r = some (.ret, e, σ') ∧ V e 2 = .bool false) ∨
      ((3 ≤ s.length ∧ lo ≤ s.getD 1 0 ∧ s.getD 1 0 ≤ hi ∧ 128 ≤ s.getD 2 0 ∧ s.getD 2 0 ≤ 191) ∧ Ew TS false (.loop L64_2) e σ' = r ∧ V e 0 = .str (s.drop 3))) := by
  have hpos : (0 : Int) < (s.length : Int) := by omega
  have hb : s.getD 0 0 < 256 := by rw [List.getD_eq_getElem?_getD, List.getElem?_eq_getElem hl]; exact hs _ (List.getElem_mem _)
  have c0 := ixC_at (s := s) (k := .i64) (n := 0) hl
  obtain ⟨rr, t1, t2⟩ := g0_at σ (s.getD 0 0) hb
  obtain ⟨r2, a1, a2⟩ := hc.acc σ
  have hwr := hc.wr
  have hand := hc.and
  simp only [Int.cast_ofNat_Int] at c0 hwr hand
  rw [hx] at t2
  have ha : ¬ ((s.getD 0 0 : Nat) : Int) < 128 := by omega
  rw [Ew_loop] at hr
  by_cases k0 : (s.length : Int) < 3
  · simp only [L64_2, sC, reduceIte, Nat.reduceEqDiff, stepOp, undefA, opMov, opPick, opArith, arith, opToInt, sO, Int.reduceEq, reduceCtorEq, Nat.reduceAdd, sD, opAlloc, allOne, sM, h0, hpos, c0, ha, opIxStr_s, opIaArr_s, ev_g0, ev_g1, t1, t2, hc.shr, a1, a2, hwr, hand, k0] at hr
    exact ⟨_, _, (Fr.new _ _).put (Nat.le_refl _) _, .inl ⟨by omega, hr.symm, by simp only [V_U, Nat.reduceEqDiff, reduceIte]⟩⟩
  have c1 := ixC_at (s := s) (k := .i64) (n := 1) (by omega)
  have c2 := ixC_at (s := s) (k := .i64) (n := 2) (by omega)
  simp only [Int.cast_ofNat_Int] at c1 c2
  by_cases k1 : ((s.getD 1 0 : Nat) : Int) < (lo : Int)
  · simp only [L64_2, sC, reduceIte, Nat.reduceEqDiff, stepOp, undefA, opMov, opPick, opArith, arith, opToInt, sO, Int.reduceEq, reduceCtorEq, Nat.reduceAdd, sD, opAlloc, allOne, sM, h0, hpos, c0, ha, opIxStr_s, opIaArr_s, ev_g0, ev_g1, t1, t2, hc.shr, a1, a2, hwr, hand, k0, c1, k1] at hr
    exact ⟨_, _, (Fr.new _ _).put (Nat.le_refl _) _, .inl ⟨by omega, hr.symm, by simp only [V_U, Nat.reduceEqDiff, reduceIte]⟩⟩
  by_cases k2 : (hi : Int) < ((s.getD 1 0 : Nat) : Int)
  · simp only [L64_2, sC, reduceIte, Nat.reduceEqDiff, stepOp, undefA, opMov, opPick, opArith, arith, opToInt, sO, Int.reduceEq, reduceCtorEq, Nat.reduceAdd, sD, opAlloc, allOne, sM, h0, hpos, c0, ha, opIxStr_s, opIaArr_s, ev_g0, ev_g1, t1, t2, hc.shr, a1, a2, hwr, hand, k0, c1, k1, k2] at hr
    exact ⟨_, _, (Fr.new _ _).put (Nat.le_refl _) _, .inl ⟨by omega, hr.symm, by simp only [V_U, Nat.reduceEqDiff, reduceIte]⟩⟩
  by_cases k3 : ((s.getD 2 0 : Nat) : Int) < 128
  · simp only [L64_2, sC, reduceIte, Nat.reduceEqDiff, stepOp, undefA, opMov, opPick, opArith, arith, opToInt, sO, Int.reduceEq, reduceCtorEq, Nat.reduceAdd, sD, opAlloc, allOne, sM, h0, hpos, c0, ha, opIxStr_s, opIaArr_s, ev_g0, ev_g1, t1, t2, hc.shr, a1, a2, hwr, hand, k0, c1, c2, k1, k2, k3] at hr
    exact ⟨_, _, (Fr.new _ _).put (Nat.le_refl _) _, .inl ⟨by omega, hr.symm, by simp only [V_U, Nat.reduceEqDiff, reduceIte]⟩⟩
  by_cases k4 : 191 < ((s.getD 2 0 : Nat) : Int)
  · simp only [L64_2, sC, reduceIte, Nat.reduceEqDiff, stepOp, undefA, opMov, opPick, opArith, arith, opToInt, sO, Int.reduceEq, reduceCtorEq, Nat.reduceAdd, sD, opAlloc, allOne, sM, h0, hpos, c0, ha, opIxStr_s, opIaArr_s, ev_g0, ev_g1, t1, t2, hc.shr, a1, a2, hwr, hand, k0, c1, c2, k1, k2, k3, k4] at hr
    exact ⟨_, _, (Fr.new _ _).put (Nat.le_refl _) _, .inl ⟨by omega, hr.symm, by simp only [V_U, Nat.reduceEqDiff, reduceIte]⟩⟩
  have f := sfrom_nat (s := s) (k := .i64) (n := 3) (by omega)
  simp only [Int.cast_ofNat_Int] at f
  simp only [L64_2, sC, reduceIte, Nat.reduceEqDiff, stepOp, undefA, opMov, opPick, opArith, arith, opToInt, sO, Int.reduceEq, reduceCtorEq, Nat.reduceAdd, sD, opAlloc, allOne, sM, h0, hpos, c0, ha, opSlStr_from, opIxStr_s, opIaArr_s, ev_g0, ev_g1, t1, t2, hc.shr, a1, a2, hwr, hand, k0, c1, c2, k1, k2, k3, k4, f] at hr
  exact ⟨_, _, (Fr.new _ _).put (Nat.le_refl _) _, .inr ⟨by omega, hr, by simp only [V_U, Nat.reduceEqDiff, reduceIte]⟩⟩

theorem valid_4 {x ai lo hi : Nat} (hc : Cls x 4 ai lo hi) (hx : xS (s.getD 0 0) = x) (hs : ∀ c ∈ s, c < 256) (hl : 0 < s.length) (hr : Ew TS false (.loop L64_2) env σ = r) (h0 : V env 0 = .str s) (h128 : ¬ s.getD 0 0 < 128) :
    ∃ e σ', Fr σ σ' ∧ ((¬ (4 ≤ s.length ∧ lo ≤ s.getD 1 0 ∧ s.getD 1 0 ≤ hi ∧ 128 ≤ s.getD 2 0 ∧ s.getD 2 0 ≤ 191 ∧ 128 ≤ s.getD 3 0 ∧ s.getD 3 0 ≤ 191) ∧ r = some (.ret, e, σ') ∧ V e 2 = .bool false) ∨
      ((4 ≤ s.length ∧ lo ≤ s.getD 1 0 ∧ s.getD 1 0 ≤ hi ∧ 128 ≤ s.getD 2 0 ∧ s.getD 2 0 ≤ 191 ∧ 128 ≤ s.getD 3 0 ∧ s.getD 3 0 ≤ 191) ∧ Ew TS false (.loop L64_2) e σ' = r ∧ V e 0 = .str (s.drop 4))) := by
  have hpos : (0 : Int) < (s.length : Int) := by omega
  have hb : s.getD 0 0 < 256 := by rw [List.getD_eq_getElem?_getD, List.getElem?_eq_getElem hl]; exact hs _ (List.getElem_mem _)
  have c0 := ixC_at (s := s) (k := .i64) (n := 0) hl
  obtain ⟨rr, t1, t2⟩ := g0_at σ (s.getD 0 0) hb
  obtain ⟨r2, a1, a2⟩ := hc.acc σ
  have hwr := hc.wr
  have hand := hc.and
  simp only [Int.cast_ofNat_Int] at c0 hwr hand
  rw [hx] at t2
  have ha : ¬ ((s.getD 0 0 : Nat) : Int) < 128 := by omega
  rw [Ew_loop] at hr
  by_cases k0 : (s.length : Int) < 4
  · simp only [L64_2, sC, reduceIte, Nat.reduceEqDiff, stepOp, undefA, opMov, opPick, opArith, arith, opToInt, sO, Int.reduceEq, reduceCtorEq, Nat.reduceAdd, sD, opAlloc, allOne, sM, h0, hpos, c0, ha, opIxStr_s, opIaArr_s, ev_g0, ev_g1, t1, t2, hc.shr, a1, a2, hwr, hand, k0] at hr
    exact ⟨_, _, (Fr.new _ _).put (Nat.le_refl _) _, .inl ⟨by omega, hr.symm, by simp only [V_U, Nat.reduceEqDiff, reduceIte]⟩⟩
  have c1 := ixC_at (s := s) (k := .i64) (n := 1) (by omega)
  have c2 := ixC_at (s := s) (k := .i64) (n := 2) (by omega)
  have c3 := ixC_at (s := s) (k := .i64) (n := 3) (by omega)
  simp only [Int.cast_ofNat_Int] at c1 c2 c3
  by_cases k1 : ((s.getD 1 0 : Nat) : Int) < (lo : Int)
  · simp only [L64_2, sC, reduceIte, Nat.reduceEqDiff, stepOp, undefA, opMov, opPick, opArith, arith, opToInt, sO, Int.reduceEq, reduceCtorEq, Nat.reduceAdd, sD, opAlloc, allOne, sM, h0, hpos, c0, ha, opIxStr_s, opIaArr_s, ev_g0, ev_g1, t1, t2, hc.shr, a1, a2, hwr, hand, k0, c1, k1] at hr
    exact ⟨_, _, (Fr.new _ _).put (Nat.le_refl _) _, .inl ⟨by omega, hr.symm, by simp only [V_U, Nat.reduceEqDiff, reduceIte]⟩⟩
  by_cases k2 : (hi : Int) < ((s.getD 1 0 : Nat) : Int)
  · simp only [L64_2, sC, reduceIte, Nat.reduceEqDiff, stepOp, undefA, opMov, opPick, opArith, arith, opToInt, sO, Int.reduceEq, reduceCtorEq, Nat.reduceAdd, sD, opAlloc, allOne, sM, h0, hpos, c0, ha, opIxStr_s, opIaArr_s, ev_g0, ev_g1, t1, t2, hc.shr, a1, a2, hwr, hand, k0, c1, k1, k2] at hr
    exact ⟨_, _, (Fr.new _ _).put (Nat.le_refl _) _, .inl ⟨by omega, hr.symm, by simp only [V_U, Nat.reduceEqDiff, reduceIte]⟩⟩
  by_cases k3 : ((s.getD 2 0 : Nat) : Int) < 128
  · simp only [L64_2, sC, reduceIte, Nat.reduceEqDiff, stepOp, undefA, opMov, opPick, opArith, arith, opToInt, sO, Int.reduceEq, reduceCtorEq, Nat.reduceAdd, sD, opAlloc, allOne, sM, h0, hpos, c0, ha, opIxStr_s, opIaArr_s, ev_g0, ev_g1, t1, t2, hc.shr, a1, a2, hwr, hand, k0, c1, c2, k1, k2, k3] at hr
    exact ⟨_, _, (Fr.new _ _).put (Nat.le_refl _) _, .inl ⟨by omega, hr.symm, by simp only [V_U, Nat.reduceEqDiff, reduceIte]⟩⟩
  by_cases k4 : 191 < ((s.getD 2 0 : Nat) : Int)
  · simp only [L64_2, sC, reduceIte, Nat.reduceEqDiff, stepOp, undefA, opMov, opPick, opArith, arith, opToInt, sO, Int.reduceEq, reduceCtorEq, Nat.reduceAdd, sD, opAlloc, allOne, sM, h0, hpos, c0, ha, opIxStr_s, opIaArr_s, ev_g0, ev_g1, t1, t2, hc.shr, a1, a2, hwr, hand, k0, c1, c2, k1, k2, k3, k4] at hr
    exact ⟨_, _, (Fr.new _ _).put (Nat.le_refl _) _, .inl ⟨by omega, hr.symm, by simp only [V_U, Nat.reduceEqDiff, reduceIte]⟩⟩
  by_cases k5 : ((s.getD 3 0 : Nat) : Int) < 128
  · simp only [L64_2, sC, reduceIte, Nat.reduceEqDiff, stepOp, undefA, opMov, opPick, opArith, arith, opToInt, sO, Int.reduceEq, reduceCtorEq, Nat.reduceAdd, sD, opAlloc, allOne, sM, h0, hpos, c0, ha, opIxStr_s, opIaArr_s, ev_g0, ev_g1, t1, t2, hc.shr, a1, a2, hwr, hand, k0, c1, c2, c3, k1, k2, k3, k4, k5] at hr
    exact ⟨_, _, (Fr.new _ _).put (Nat.le_refl _) _, .inl ⟨by omega, hr.symm, by simp only [V_U, Nat.reduceEqDiff, reduceIte]⟩⟩
  by_cases k6 : 191 < ((s.getD 3 0 : Nat) : Int)
  · simp only [L64_2, sC, reduceIte, Nat.reduceEqDiff, stepOp, undefA, opMov, opPick, opArith, arith, opToInt, sO, Int.reduceEq, reduceCtorEq, Nat.reduceAdd, sD, opAlloc, allOne, sM, h0, hpos, c0, ha, opIxStr_s, opIaArr_s, ev_g0, ev_g1, t1, t2, hc.shr, a1, a2, hwr, hand, k0, c1, c2, c3, k1, k2, k3, k4, k5, k6] at hr
    exact ⟨_, _, (Fr.new _ _).put (Nat.le_refl _) _, .inl ⟨by omega, hr.symm, by simp only [V_U, Nat.reduceEqDiff, reduceIte]⟩⟩
  have f := sfrom_nat (s := s) (k := .i64) (n := 4) (by omega)
  simp only [Int.cast_ofNat_Int] at f
  simp only [L64_2, sC, reduceIte, Nat.reduceEqDiff, stepOp, undefA, opMov, opPick, opArith, arith, opToInt, sO, Int.reduceEq, reduceCtorEq, Nat.reduceAdd, sD, opAlloc, allOne, sM, h0, hpos, c0, ha, opSlStr_from, opIxStr_s, opIaArr_s, ev_g0, ev_g1, t1, t2, hc.shr, a1, a2, hwr, hand, k0, c1, c2, c3, k1, k2, k3, k4, k5, k6, f] at hr
  exact ⟨_, _, (Fr.new _ _).put (Nat.le_refl _) _, .inr ⟨by omega, hr, by simp only [V_U, Nat.reduceEqDiff, reduceIte]⟩⟩
end

set_option maxHeartbeats 2000000 in
/-- One turn of the loop, at a byte below 128. -/
theorem valid_step1 {s : List Nat} {env : Env} {σ : St} {r : Option (Out × Env × St)} (hs : ∀ c ∈ s, c < 256) (hb : s.length < 9223372036854775808) (hl : 0 < s.length) (hr : Ew TS false (.loop L64_2) env σ = r) (h0 : V env 0 = .str s) (h128 : s.getD 0 0 < 128) :
    ∃ e σ', Fr σ σ' ∧ ((validS s = false ∧ r = some (.ret, e, σ') ∧ V e 2 = .bool false) ∨
      ∃ s', Ew TS false (.loop L64_2) e σ' = r ∧ V e 0 = .str s' ∧ validS s' = validS s ∧ s'.length < s.length ∧ (∀ c ∈ s', c < 256)) := by
  · have hpos : (0 : Int) < (s.length : Int) := by omega
    have c0 := ixC_at (s := s) (k := .i64) (n := 0) hl
    have f1 := sfrom_nat (s := s) (k := .i64) (n := 1) (by omega)
    simp only [Int.cast_ofNat_Int] at c0 f1
    have ha : ((s.getD 0 0 : Nat) : Int) < 128 := by omega
    have v1 := validS_ascii hl h128
    have hs1 := drop_bytes hs 1
    rw [Ew_loop] at hr
    by_cases k1 : (8 : Int) < ((s.drop 1).length : Int)
    · have w1 := word_ok false (s.drop 1) σ hs1 (by omega)
      have f8 := sfrom_nat (s := s.drop 1) (k := .i64) (n := 8) (by omega)
      simp only [Int.cast_ofNat_Int] at f8
      by_cases k2 : hiAnd (wordS (s.drop 1)) = 0
      · have v8 := word_valid hs1 (by omega) (hi_zero k2)
        have hs8 := drop_bytes hs1 8
        have k2 := eq_true k2
        have hpr : (decide ((wordS (s.drop 1)) = 0)) = (decide ((wordS (s.drop 1)) = 0)) := rfl
        by_cases k3 : (16 : Int) < (((s.drop 1).drop 8).length : Int)
        · have w2 := word_ok true ((s.drop 1).drop 8) σ hs8 (by omega)
          have w3 := word_ok true (((s.drop 1).drop 8).drop 8) σ (drop_bytes hs8 8) (by simp only [List.length_drop] at k3 ⊢; omega)
          have g8 := sfrom_nat (s := (s.drop 1).drop 8) (k := .i64) (n := 8) (by omega)
          have g16 := sfrom_nat (s := (s.drop 1).drop 8) (k := .i64) (n := 16) (by omega)
          simp only [Int.cast_ofNat_Int] at g8 g16
          by_cases k4 : hiAnd (wOr (wordS ((s.drop 1).drop 8)) (wordS (((s.drop 1).drop 8).drop 8))) = 0
          · obtain ⟨n1, n2⟩ := (hi_zero k4).or
            have v2 := word_valid hs8 (by omega) n1
            have v3 := word_valid (drop_bytes hs8 8) (by simp only [List.length_drop] at k3 ⊢; omega) n2
            have k4 := eq_true k4
            have hin : ∀ e, V e 0 = .str (((s.drop 1).drop 8).drop 16) → Ew TS false (.loop L64_1) e σ = some (.exit 2, nx TS false (.loop L64_1) σ e, σ) := by
              intro e he
              obtain ⟨e1, s', g1, -⟩ := valid_in _ _ _ σ _ (Nat.le_refl _) (drop_bytes hs8 16) (by simp only [List.length_drop]; omega) rfl he
              unfold nx; rw [g1]
            have hin2 : ∀ e, V e 0 = .str (((s.drop 1).drop 8).drop 16) → V (nx TS false (.loop L64_1) σ e) 0 = .str (strV (V (nx TS false (.loop L64_1) σ e) 0)) ∧ validS (strV (V (nx TS false (.loop L64_1) σ e) 0)) = validS (((s.drop 1).drop 8).drop 16) ∧ (strV (V (nx TS false (.loop L64_1) σ e) 0)).length ≤ (((s.drop 1).drop 8).drop 16).length ∧ (∀ c ∈ (strV (V (nx TS false (.loop L64_1) σ e) 0)), c < 256) := by
              intro e he
              obtain ⟨e1, s', g1, g2, g3, g4, g5⟩ := valid_in _ _ _ σ _ (Nat.le_refl _) (drop_bytes hs8 16) (by simp only [List.length_drop]; omega) rfl he
              have : V (nx TS false (.loop L64_1) σ e) 0 = .str s' := by unfold nx; rw [g1]; exact g2
              rw [this]
              exact ⟨rfl, g3, g4, g5⟩
            simp only [L64_2, sC, reduceIte, Nat.reduceEqDiff, stepOp, opMov, opPick, opArith, arith, sO, reduceCtorEq, sD, opCall, argsOf, h0, hpos, c0, ha, opSlStr_from, opIxStr_s, f1, k1, w1, ia_or64, ia_hi64, k2, f8, k3, w2, w3, g8, g16, k4, hin] at hr
            refine ⟨_, _, Fr.refl _, .inr ⟨_, hr, (hin2 _ (by simp only [V_U, Nat.reduceEqDiff, reduceIte])).1, ?_, ?_, (hin2 _ (by simp only [V_U, Nat.reduceEqDiff, reduceIte])).2.2.2⟩⟩
            · refine (hin2 _ (by simp only [V_U, Nat.reduceEqDiff, reduceIte])).2.1.trans ?_
              rw [v1, v8, v2, v3]
              simp only [List.drop_drop, Nat.reduceAdd]
            · refine Nat.lt_of_le_of_lt (hin2 _ (by simp only [V_U, Nat.reduceEqDiff, reduceIte])).2.2.1 ?_
              simp only [List.length_drop]; omega
          · simp only [L64_2, sC, reduceIte, Nat.reduceEqDiff, stepOp, opMov, opPick, opArith, arith, sO, reduceCtorEq, sD, opCall, argsOf, h0, hpos, c0, ha, opSlStr_from, opIxStr_s, f1, k1, w1, ia_or64, ia_hi64, k2, f8, k3, w2, w3, g8, k4] at hr
            exact ⟨_, _, Fr.refl _, .inr ⟨_, hr, by simp only [V_U, Nat.reduceEqDiff, reduceIte], by rw [v1, v8], by simp only [List.length_drop]; omega, hs8⟩⟩
        · simp only [L64_2, sC, reduceIte, Nat.reduceEqDiff, stepOp, undefA, opMov, opPick, opArith, arith, sO, reduceCtorEq, sD, opCall, argsOf, h0, hpos, c0, ha, opSlStr_from, opIxStr_s, f1, k1, w1, ia_hi64, k2, f8, k3] at hr
          exact ⟨_, _, Fr.refl _, .inr ⟨_, hr, by simp only [V_U, Nat.reduceEqDiff, reduceIte], by rw [v1, v8], by simp only [List.length_drop]; omega, hs8⟩⟩
      · simp only [L64_2, sC, reduceIte, Nat.reduceEqDiff, stepOp, opMov, opPick, opArith, arith, sO, reduceCtorEq, opCall, argsOf, h0, hpos, c0, ha, opSlStr_from, opIxStr_s, f1, k1, w1, ia_hi64, k2] at hr
        exact ⟨_, _, Fr.refl _, .inr ⟨_, hr, by simp only [V_U, Nat.reduceEqDiff, reduceIte], by rw [v1], by simp only [List.length_drop]; omega, hs1⟩⟩
    · simp only [L64_2, sC, reduceIte, Nat.reduceEqDiff, stepOp, undefA, opMov, opPick, opArith, arith, sO, reduceCtorEq, h0, hpos, c0, ha, opSlStr_from, opIxStr_s, f1, k1] at hr
      exact ⟨_, _, Fr.refl _, .inr ⟨_, hr, by simp only [V_U, Nat.reduceEqDiff, reduceIte], by rw [v1], by simp only [List.length_drop]; omega, hs1⟩⟩

set_option maxHeartbeats 2000000 in
/-- One turn of the loop. -/
theorem valid_step {s : List Nat} {env : Env} {σ : St} {r : Option (Out × Env × St)} (hs : ∀ c ∈ s, c < 256) (hb : s.length < 9223372036854775808) (hl : 0 < s.length) (hr : Ew TS false (.loop L64_2) env σ = r) (h0 : V env 0 = .str s) :
    ∃ e σ', Fr σ σ' ∧ ((validS s = false ∧ r = some (.ret, e, σ') ∧ V e 2 = .bool false) ∨
      ∃ s', Ew TS false (.loop L64_2) e σ' = r ∧ V e 0 = .str s' ∧ validS s' = validS s ∧ s'.length < s.length ∧ (∀ c ∈ s', c < 256)) := by
  by_cases h128 : s.getD 0 0 < 128
  · exact valid_step1 hs hb hl hr h0 h128
  · have hb0 : s.getD 0 0 < 256 := by rw [List.getD_eq_getElem?_getD, List.getElem?_eq_getElem hl]; exact hs _ (List.getElem_mem _)
    have bad : ∀ {x ai lo hi : Nat}, Cls x 1 ai lo hi → xS (s.getD 0 0) = x → accS (s.getD 0 0) = none → ∃ e σ', Fr σ σ' ∧ ((validS s = false ∧ r = some (.ret, e, σ') ∧ V e 2 = .bool false) ∨
      ∃ s', Ew TS false (.loop L64_2) e σ' = r ∧ V e 0 = .str s' ∧ validS s' = validS s ∧ s'.length < s.length ∧ (∀ c ∈ s', c < 256)) := by
      intro x ai lo hi hc hx hacc
      obtain ⟨e, σ', a, b, c⟩ := valid_bad hc hx hs hl hr h0 h128
      exact ⟨e, σ', a, .inl ⟨validS_none hl (by unfold cutS; rw [if_neg h128, hacc]), b, c⟩⟩
    have fin : ∀ (n lo hi : Nat), 2 ≤ n → accS (s.getD 0 0) = some (n, lo, hi) → (C : Prop) → (C ↔ (n ≤ s.length ∧ lo ≤ s.getD 1 0 ∧ s.getD 1 0 ≤ hi ∧ (3 ≤ n → 128 ≤ s.getD 2 0 ∧ s.getD 2 0 ≤ 191) ∧ (4 ≤ n → 128 ≤ s.getD 3 0 ∧ s.getD 3 0 ≤ 191))) →
        (∃ e σ', Fr σ σ' ∧ ((¬ C ∧ r = some (.ret, e, σ') ∧ V e 2 = .bool false) ∨ (C ∧ Ew TS false (.loop L64_2) e σ' = r ∧ V e 0 = .str (s.drop n)))) → ∃ e σ', Fr σ σ' ∧ ((validS s = false ∧ r = some (.ret, e, σ') ∧ V e 2 = .bool false) ∨
      ∃ s', Ew TS false (.loop L64_2) e σ' = r ∧ V e 0 = .str s' ∧ validS s' = validS s ∧ s'.length < s.length ∧ (∀ c ∈ s', c < 256)) := by
      intro n lo hi hn hacc C hC h
      obtain ⟨e, σ', a, ⟨b, c, d⟩ | ⟨b, c, d⟩⟩ := h
      · refine ⟨e, σ', a, .inl ⟨validS_none hl ?_, c, d⟩⟩
        unfold cutS; rw [if_neg h128, hacc]; simp only; rw [if_neg (fun hh => b (hC.2 hh))]
      · refine ⟨e, σ', a, .inr ⟨_, c, d, ?_, ?_, drop_bytes hs n⟩⟩
        · refine (validS_some hl (by omega) ?_).symm
          unfold cutS; rw [if_neg h128, hacc]; simp only; rw [if_pos (hC.1 b)]
        · simp only [List.length_drop]; omega
    have hx : ∀ x, x = s.getD 0 0 → x < 194 ∨ (194 ≤ x ∧ x ≤ 223) ∨ x = 224 ∨ (225 ≤ x ∧ x ≤ 236) ∨ x = 237 ∨ (238 ≤ x ∧ x ≤ 239) ∨ x = 240 ∨ (241 ≤ x ∧ x ≤ 243) ∨ x = 244 ∨ 245 ≤ x := by intro x _; omega
    have ex : ∀ (v : Nat), (∀ a, a < 256 → ¬ a < 128 → a = s.getD 0 0 → xS a = v) → xS (s.getD 0 0) = v := fun v h => h _ hb0 h128 rfl
    rcases hx _ rfl with h | h | h | h | h | h | h | h | h | h
    · exact bad cls241 (by unfold xS; rw [if_neg h128, if_pos (by omega)]) (by unfold accS; rw [if_pos (by omega)])
    · exact fin 2 128 191 (by omega) (by unfold accS; rw [if_neg (by omega), if_pos (by omega)]) _ (by omega) (valid_2 cls2 (by unfold xS; rw [if_neg h128, if_neg (by omega), if_pos (by omega)]) hs hl hr h0 h128)
    · exact fin 3 160 191 (by omega) (by unfold accS; rw [h]; rfl) _ (by omega) (valid_3 cls19 (by unfold xS; rw [h]; rfl) hs hl hr h0 h128)
    · exact fin 3 128 191 (by omega) (by unfold accS; rw [if_neg (by omega), if_neg (by omega), if_neg (by omega), if_pos (by omega)]) _ (by omega) (valid_3 cls3 (by unfold xS; rw [if_neg h128, if_neg (by omega), if_neg (by omega), if_neg (by omega), if_pos (by omega)]) hs hl hr h0 h128)
    · exact fin 3 128 159 (by omega) (by unfold accS; rw [h]; rfl) _ (by omega) (valid_3 cls35 (by unfold xS; rw [h]; rfl) hs hl hr h0 h128)
    · exact fin 3 128 191 (by omega) (by unfold accS; rw [if_neg (by omega), if_neg (by omega), if_neg (by omega), if_neg (by omega), if_neg (by omega), if_pos (by omega)]) _ (by omega) (valid_3 cls3 (by unfold xS; rw [if_neg h128, if_neg (by omega), if_neg (by omega), if_neg (by omega), if_neg (by omega), if_neg (by omega), if_pos (by omega)]) hs hl hr h0 h128)
    · exact fin 4 144 191 (by omega) (by unfold accS; rw [h]; rfl) _ (by omega) (valid_4 cls52 (by unfold xS; rw [h]; rfl) hs hl hr h0 h128)
    · exact fin 4 128 191 (by omega) (by unfold accS; rw [if_neg (by omega), if_neg (by omega), if_neg (by omega), if_neg (by omega), if_neg (by omega), if_neg (by omega), if_neg (by omega), if_pos (by omega)]) _ (by omega) (valid_4 cls4 (by unfold xS; rw [if_neg h128, if_neg (by omega), if_neg (by omega), if_neg (by omega), if_neg (by omega), if_neg (by omega), if_neg (by omega), if_neg (by omega), if_pos (by omega)]) hs hl hr h0 h128)
    · exact fin 4 128 143 (by omega) (by unfold accS; rw [h]; rfl) _ (by omega) (valid_4 cls68 (by unfold xS; rw [h]; rfl) hs hl hr h0 h128)
    · exact bad cls241 (by unfold xS; rw [if_neg h128, if_neg (by omega), if_neg (by omega), if_neg (by omega), if_neg (by omega), if_neg (by omega), if_neg (by omega), if_neg (by omega), if_neg (by omega), if_neg (by omega)]) (by unfold accS; rw [if_neg (by omega), if_neg (by omega), if_neg (by omega), if_neg (by omega), if_neg (by omega), if_neg (by omega), if_neg (by omega), if_neg (by omega), if_neg (by omega)])

set_option maxHeartbeats 1000000 in
theorem valid_loop : ∀ (m : Nat) (s : List Nat) (env : Env) (σ : St) (r : Option (Out × Env × St)), s.length ≤ m → (∀ c ∈ s, c < 256) → s.length < 9223372036854775808 → Ew TS false (.loop L64_2) env σ = r → V env 0 = .str s →
    ∃ e σ', Fr σ σ' ∧ ((validS s = true ∧ r = some (.exit 0, e, σ')) ∨ (validS s = false ∧ r = some (.ret, e, σ') ∧ V e 2 = .bool false))
  | m, s, env, σ, r, hm, hs, hb, hr, h0 => by
    by_cases hl : 0 < s.length
    · obtain ⟨e, σ', hf, h | ⟨s', h1, h2, h3, h4, h5⟩⟩ := valid_step hs hb hl hr h0
      · exact ⟨e, σ', hf, .inr h⟩
      · cases m with
        | zero => omega
        | succ m =>
          obtain ⟨e2, σ2, hf2, hh⟩ := valid_loop m s' e σ' r (by omega) h5 (by omega) h1 h2
          rw [h3] at hh
          exact ⟨e2, σ2, hf.trans hf2, hh⟩
    · have : s = [] := List.eq_nil_of_length_eq_zero (by omega)
      subst this
      rw [Ew_loop] at hr
      simp only [L64_2, sC, reduceIte, Nat.reduceEqDiff, stepOp, opMov, opArith, arith, sO, h0, List.length_nil, Int.natCast_zero, Int.lt_irrefl] at hr
      exact ⟨_, _, Fr.refl _, .inl ⟨validS_nil, hr.symm⟩⟩

theorem Valid_ok (s : List Nat) (σ : St) (hs : ∀ c ∈ s, c < 256) (hb : s.length < 9223372036854775808) :
    ∃ σ', Fr σ σ' ∧ Cw TS false 64 [.str s] σ = some (.bool (validS s), σ') := by
  rw [Cw_of fn64 false _ σ rfl]
  simp only [c64, sC, stepOp, opMov, sF, Nat.reduceAdd]
  generalize hr : Ew TS false (.loop L64_2) _ σ = r
  obtain ⟨e, σ', hf, ⟨h1, rfl⟩ | ⟨h1, rfl, h3⟩⟩ := valid_loop s.length s _ σ r (Nat.le_refl _) hs hb hr (by simp only [V_U, Nat.reduceEqDiff, reduceIte])
  · exact ⟨σ', hf, by simp only [sC, reduceIte, sF, h1]⟩
  · exact ⟨σ', hf, by simp only [sF, h1, h3]⟩

/-- May a string stand in a tree? -/
def wellS (s : List Nat) : Bool := validS s && s.all fun c => decide (c ≠ 0)

theorem indexByte_neg : ∀ (s : List Nat) (i : Nat), (match indexByteL 0 s i with | some j => Int.ofNat j | none => -1) < 0 ↔ (s.all fun c => decide (c ≠ 0)) = true
  | [], i => by simp [indexByteL]
  | x :: l, i => by
    rw [indexByteL]
    by_cases h : x = 0
    · subst h; simp
    · rw [if_neg h, indexByte_neg l (i + 1)]; simp [h]

theorem well_ok (s : List Nat) (σ : St) (hs : ∀ c ∈ s, c < 256) (hb : s.length < 9223372036854775808) :
    ∃ σ', Fr σ σ' ∧ Cw TS false 42 [.str s] σ = some (.bool (wellS s), σ') := by
  obtain ⟨σ', hf, hv⟩ := Valid_ok s σ hs hb
  refine ⟨σ', hf, ?_⟩
  have hi : ∀ τ, Cw TS false 59 [.str s, .int .u8 0] τ = some (.int .i64 (match indexByteL 0 s 0 with | some j => Int.ofNat j | none => -1), τ) := by
    intro τ
    have h77 : Cw TS false 77 [.str s, .int .u8 0] τ = some (.int .i64 (match indexByteL 0 s 0 with | some j => Int.ofNat j | none => -1), τ) := by
      rw [Cw_of fn77 false _ τ rfl]
      have he : extRun .indexByte [.str s, .int .u8 0] = some (.int .i64 (match indexByteL 0 s 0 with | some j => Int.ofNat j | none => -1)) := by
        show some (optInt (indexByteL 0 s 0)) = _
        cases indexByteL 0 s 0 <;> rfl
      simp only [c77, sC, reduceIte, Nat.reduceEqDiff, stepOp, opMov, sO, Int.reduceNeg, reduceCtorEq, sF, Nat.reduceAdd, opExt, argsOf, he]
    rw [Cw_of fn59 false _ τ rfl]
    simp only [c59, sC, reduceIte, Nat.reduceEqDiff, stepOp, opMov, sO, Int.reduceNeg, reduceCtorEq, sF, Nat.reduceAdd, opCall, argsOf, h77]
  have hi := hi σ'
  rw [Cw_of fn42 false _ σ rfl]
  by_cases hz : (match indexByteL 0 s 0 with | some j => Int.ofNat j | none => -1) < 0
  · have hz2 := (indexByte_neg s 0).1 hz
    generalize (match indexByteL 0 s 0 with | some j => Int.ofNat j | none => -1) = z at hi hz
    cases hvs : validS s with
    | true =>
      rw [hvs] at hv
      simp only [c42, sC, reduceIte, Nat.reduceEqDiff, stepOp, opMov, opPick, opArith, arith, sO, reduceCtorEq, sF, Nat.reduceAdd, opCall, argsOf, hv, hi, hz, wellS, hvs, hz2, Bool.and_self]
    | false =>
      rw [hvs] at hv
      simp only [c42, sC, reduceIte, Nat.reduceEqDiff, stepOp, undefA, opMov, opPick, sO, reduceCtorEq, sF, Nat.reduceAdd, opCall, argsOf, hv, wellS, hvs, Bool.false_and]
  · have hz2 : (s.all fun c => decide (c ≠ 0)) = false := by
      cases h : (s.all fun c => decide (c ≠ 0)) with
      | false => rfl
      | true => exact absurd ((indexByte_neg s 0).2 h) hz
    generalize (match indexByteL 0 s 0 with | some j => Int.ofNat j | none => -1) = z at hi hz
    cases hvs : validS s with
    | true =>
      rw [hvs] at hv
      simp only [c42, sC, reduceIte, Nat.reduceEqDiff, stepOp, opMov, opPick, opArith, arith, sO, reduceCtorEq, sF, Nat.reduceAdd, opCall, argsOf, hv, hi, hz, wellS, hvs, hz2, Bool.and_false]
    | false =>
      rw [hvs] at hv
      simp only [c42, sC, reduceIte, Nat.reduceEqDiff, stepOp, undefA, opMov, opPick, sO, reduceCtorEq, sF, Nat.reduceAdd, opCall, argsOf, hv, wellS, hvs, Bool.false_and]
end Go.Ab.Dirs
end
