/- utf8.ValidString: its loop. -/
import Derived.Test.YthbanbnmomcohaaGreatDoorM19
import Derived.Test.YthbanbnmomcohaaGreatDoorM18
set_option linter.all false
set_option linter.unusedSimpArgs false
set_option maxRecDepth 10000
noncomputable section
namespace Go.Ab.Dirs
open Go Go.Ab

/-- The table of first bytes. -/
def xS (a : Nat) : Nat :=
  if a < 128 then 240 else if a < 194 then 241 else if a ≤ 223 then 2 else if a = 224 then 19 else if a ≤ 236 then 3 else if a = 237 then 35 else if a ≤ 239 then 3
  else if a = 240 then 52 else if a ≤ 243 then 4 else if a = 244 then 68 else 241
theorem g0_eq : g0 = (List.range 256).map fun a => .int .u8 (Int.ofNat (xS a)) := eqAs_eq _ _ (by decide +kernel)
theorem g0_at (σ : St) (a : Nat) (ha : a < 256) : ∃ r, ixA 256 1 (.rptr g0) (.int .u8 (a : Int)) = some (.rptr r) ∧ ldA σ none (.rptr r) = some (.int .u8 ((xS a : Nat) : Int)) := by
  have hl : g0.length = 256 := by rw [g0_eq]; simp
  refine ⟨_, ixA_r ha (by rw [hl]; omega), ?_⟩
  rw [Nat.mul_one, List.drop_eq_getElem_cons (by rw [hl]; exact ha)]
  rw [ldA_r, loadL_none]
  have : ∀ (l : List AVal) (h : a < l.length), l = (List.range 256).map (fun a => AVal.int .u8 (Int.ofNat (xS a))) → l[a] = .int .u8 ((xS a : Nat) : Int) := by
    intro l h e; subst e; simp
  rw [this g0 _ g0_eq]
theorem ev_g0 (env : Env) : Opd.ev TS env (.g 0) = .rptr g0 := by kernel_rfl
theorem ev_g1 (env : Env) : Opd.ev TS env (.g 1) = .rptr g1 := by kernel_rfl
theorem g1_at (σ : St) (k lo hi : Nat) (rest : List AVal) (hk : k < 16) (h : g1.drop (k * 2) = .int .u8 (lo : Int) :: .int .u8 (hi : Int) :: rest) : ∃ r, ixA 16 2 (.rptr g1) (.int .u8 (k : Int)) = some (.rptr r) ∧ ldA σ (some 2) (.rptr r) = some (.agg [.int .u8 (lo : Int), .int .u8 (hi : Int)]) := by
  have hl : g1.length = 32 := by kernel_rfl
  refine ⟨_, ixA_r hk (by rw [hl]; omega), ?_⟩
  rw [h, ldA_r, loadL_2]

theorem ev_t' (T : Tab) (env : Env) (k : Nat) : Opd.ev T env (.t (path k)) = V env k := rfl

def strV (v : AVal) : List Nat := match v with | .str s => s | _ => []

/-- What a first byte's class is in the tables. -/
structure Cls (x sz ai lo hi : Nat) : Prop where
  and : intArith .and .u8 (x : Int) 7 = some (.int .u8 (sz : Int))
  shr : shiftI .shr .u8 (x : Int) 4 = some (.int .u8 (ai : Int))
  acc : ∀ σ, ∃ r, ixA 16 2 (.rptr g1) (.int .u8 (ai : Int)) = some (.rptr r) ∧ ldA σ (some 2) (.rptr r) = some (.agg [.int .u8 (lo : Int), .int .u8 (hi : Int)])
  wr : wrapI .i64 (sz : Int) = (sz : Int)
theorem cls241 : Cls 241 1 15 0 0 := ⟨by kernel_rfl, by kernel_rfl, fun σ => g1_at σ 15 0 0 (g1.drop 32) (by decide) (by kernel_rfl), wrap_i64 (by decide) (by decide)⟩
theorem cls2 : Cls 2 2 0 128 191 := ⟨by kernel_rfl, by kernel_rfl, fun σ => g1_at σ 0 128 191 (g1.drop 2) (by decide) (by kernel_rfl), wrap_i64 (by decide) (by decide)⟩
theorem cls19 : Cls 19 3 1 160 191 := ⟨by kernel_rfl, by kernel_rfl, fun σ => g1_at σ 1 160 191 (g1.drop 4) (by decide) (by kernel_rfl), wrap_i64 (by decide) (by decide)⟩
theorem cls3 : Cls 3 3 0 128 191 := ⟨by kernel_rfl, by kernel_rfl, fun σ => g1_at σ 0 128 191 (g1.drop 2) (by decide) (by kernel_rfl), wrap_i64 (by decide) (by decide)⟩
theorem cls35 : Cls 35 3 2 128 159 := ⟨by kernel_rfl, by kernel_rfl, fun σ => g1_at σ 2 128 159 (g1.drop 6) (by decide) (by kernel_rfl), wrap_i64 (by decide) (by decide)⟩
theorem cls52 : Cls 52 4 3 144 191 := ⟨by kernel_rfl, by kernel_rfl, fun σ => g1_at σ 3 144 191 (g1.drop 8) (by decide) (by kernel_rfl), wrap_i64 (by decide) (by decide)⟩
theorem cls4 : Cls 4 4 0 128 191 := ⟨by kernel_rfl, by kernel_rfl, fun σ => g1_at σ 0 128 191 (g1.drop 2) (by decide) (by kernel_rfl), wrap_i64 (by decide) (by decide)⟩
theorem cls68 : Cls 68 4 4 128 143 := ⟨by kernel_rfl, by kernel_rfl, fun σ => g1_at σ 4 128 143 (g1.drop 10) (by decide) (by kernel_rfl), wrap_i64 (by decide) (by decide)⟩

section
variable {s : List Nat} {env : Env} {σ : St} {r : Option (Out × Env × St)}

theorem valid_bad {x ai lo hi : Nat} (hc : Cls x 1 ai lo hi) (hx : xS (s.getD 0 0) = x) (hs : ∀ c ∈ s, c < 256) (hl : 0 < s.length) (hr : Ew TS false (.loop L64_2) env σ = r) (h0 : V env 0 = .str s) (h128 : ¬ s.getD 0 0 < 128) :
    ∃ e σ', Fr σ σ' ∧ r = some (.ret, e, σ') ∧ V e 2 = .bool false := by
  have hpos : (0 : Int) < (s.length : Int) := by omega
  have hb : s.getD 0 0 < 256 := by rw [List.getD_eq_getElem?_getD, List.getElem?_eq_getElem hl]; exact hs _ (List.getElem_mem _)
  have c0 := ixC_at (s := s) (k := .i64) (n := 0) hl
  obtain ⟨rr, t1, t2⟩ := g0_at σ (s.getD 0 0) hb
  obtain ⟨r2, a1, a2⟩ := hc.acc σ
  have hwr := hc.wr
  have hand := hc.and
  simp only [Int.cast_ofNat_Int, Int.natCast_zero, Int.natCast_one] at c0 hwr hand
  rw [hx] at t2
  have ha : ¬ ((s.getD 0 0 : Nat) : Int) < 128 := by omega
  rw [Ew_loop] at hr
  simp only [L64_2, sA, reduceIte, Nat.reduceEqDiff, Int.reduceLT, Int.reduceLE, Int.reduceEq, Int.reduceNeg, reduceCtorEq, Nat.reduceAdd, sD, sM, h0, hpos, c0, ha, opSlStr_from, opIxStr_s, opIaArr_s, ev_g0, ev_g1, t1, t2, hc.shr, a1, a2, hwr, hand] at hr
  exact ⟨_, _, (Fr.new _ _).put (Nat.le_refl _) _, hr.symm, by simp only [sV, Nat.reduceEqDiff, reduceIte, Nat.reduceAdd]⟩

theorem valid_2 {x ai lo hi : Nat} (hc : Cls x 2 ai lo hi) (hx : xS (s.getD 0 0) = x) (hs : ∀ c ∈ s, c < 256) (hl : 0 < s.length) (hr : Ew TS false (.loop L64_2) env σ = r) (h0 : V env 0 = .str s) (h128 : ¬ s.getD 0 0 < 128) :
    ∃ e σ', Fr σ σ' ∧ ((¬ (2 ≤ s.length ∧ lo ≤ s.getD 1 0 ∧ s.getD 1 0 ≤ hi) ∧ r = some (.ret, e, σ') ∧ V e 2 = .bool false) ∨
      ((2 ≤ s.length ∧ lo ≤ s.getD 1 0 ∧ s.getD 1 0 ≤ hi) ∧ Ew TS false (.loop L64_2) e σ' = r ∧ V e 0 = .str (s.drop 2))) := by
  have hpos : (0 : Int) < (s.length : Int) := by omega
  have hb : s.getD 0 0 < 256 := by rw [List.getD_eq_getElem?_getD, List.getElem?_eq_getElem hl]; exact hs _ (List.getElem_mem _)
  have c0 := ixC_at (s := s) (k := .i64) (n := 0) hl
  obtain ⟨rr, t1, t2⟩ := g0_at σ (s.getD 0 0) hb
  obtain ⟨r2, a1, a2⟩ := hc.acc σ
  have hwr := hc.wr
  have hand := hc.and
  simp only [Int.cast_ofNat_Int, Int.natCast_zero, Int.natCast_one] at c0 hwr hand
  rw [hx] at t2
  have ha : ¬ ((s.getD 0 0 : Nat) : Int) < 128 := by omega
  rw [Ew_loop] at hr
  by_cases k0 : (s.length : Int) < 2
  · simp only [L64_2, sA, reduceIte, Nat.reduceEqDiff, Int.reduceLT, Int.reduceLE, Int.reduceEq, Int.reduceNeg, reduceCtorEq, Nat.reduceAdd, sD, sM, h0, hpos, c0, ha, opSlStr_from, opIxStr_s, opIaArr_s, ev_g0, ev_g1, t1, t2, hc.shr, a1, a2, hwr, hand, k0] at hr
    exact ⟨_, _, (Fr.new _ _).put (Nat.le_refl _) _, .inl ⟨by omega, hr.symm, by simp only [sV, Nat.reduceEqDiff, reduceIte, Nat.reduceAdd]⟩⟩
  have c1 := ixC_at (s := s) (k := .i64) (n := 1) (by omega)
  simp only [Int.cast_ofNat_Int, Int.natCast_zero, Int.natCast_one] at c1
  by_cases k1 : ((s.getD 1 0 : Nat) : Int) < (lo : Int)
  · simp only [L64_2, sA, reduceIte, Nat.reduceEqDiff, Int.reduceLT, Int.reduceLE, Int.reduceEq, Int.reduceNeg, reduceCtorEq, Nat.reduceAdd, sD, sM, h0, hpos, c0, ha, opSlStr_from, opIxStr_s, opIaArr_s, ev_g0, ev_g1, t1, t2, hc.shr, a1, a2, hwr, hand, k0, c1, k1] at hr
    exact ⟨_, _, (Fr.new _ _).put (Nat.le_refl _) _, .inl ⟨by omega, hr.symm, by simp only [sV, Nat.reduceEqDiff, reduceIte, Nat.reduceAdd]⟩⟩
  by_cases k2 : (hi : Int) < ((s.getD 1 0 : Nat) : Int)
  · simp only [L64_2, sA, reduceIte, Nat.reduceEqDiff, Int.reduceLT, Int.reduceLE, Int.reduceEq, Int.reduceNeg, reduceCtorEq, Nat.reduceAdd, sD, sM, h0, hpos, c0, ha, opSlStr_from, opIxStr_s, opIaArr_s, ev_g0, ev_g1, t1, t2, hc.shr, a1, a2, hwr, hand, k0, c1, k1, k2] at hr
    exact ⟨_, _, (Fr.new _ _).put (Nat.le_refl _) _, .inl ⟨by omega, hr.symm, by simp only [sV, Nat.reduceEqDiff, reduceIte, Nat.reduceAdd]⟩⟩
  have f := sfrom_nat (s := s) (k := .i64) (n := 2) (by omega)
  simp only [Int.cast_ofNat_Int] at f
  simp only [L64_2, sA, reduceIte, Nat.reduceEqDiff, Int.reduceLT, Int.reduceLE, Int.reduceEq, Int.reduceNeg, reduceCtorEq, Nat.reduceAdd, sD, sM, h0, hpos, c0, ha, opSlStr_from, opIxStr_s, opIaArr_s, ev_g0, ev_g1, t1, t2, hc.shr, a1, a2, hwr, hand, k0, c1, k1, k2, f] at hr
  exact ⟨_, _, (Fr.new _ _).put (Nat.le_refl _) _, .inr ⟨by omega, hr, by simp only [sV, Nat.reduceEqDiff, reduceIte, Nat.reduceAdd]⟩⟩

theorem valid_3 {x ai lo hi : Nat} (hc : Cls x 3 ai lo hi) (hx : xS (s.getD 0 0) = x) (hs : ∀ c ∈ s, c < 256) (hl : 0 < s.length) (hr : Ew TS false (.loop L64_2) env σ = r) (h0 : V env 0 = .str s) (h128 : ¬ s.getD 0 0 < 128) :
    ∃ e σ', Fr σ σ' ∧ ((¬ (3 ≤ s.length ∧ lo ≤ s.getD 1 0 ∧ s.getD 1 0 ≤ hi ∧ 128 ≤ s.getD 2 0 ∧ s.getD 2 0 ≤ 191) ∧ r = some (.ret, e, σ') ∧ V e 2 = .bool false) ∨
      ((3 ≤ s.length ∧ lo ≤ s.getD 1 0 ∧ s.getD 1 0 ≤ hi ∧ 128 ≤ s.getD 2 0 ∧ s.getD 2 0 ≤ 191) ∧ Ew TS false (.loop L64_2) e σ' = r ∧ V e 0 = .str (s.drop 3))) := by
  have hpos : (0 : Int) < (s.length : Int) := by omega
  have hb : s.getD 0 0 < 256 := by rw [List.getD_eq_getElem?_getD, List.getElem?_eq_getElem hl]; exact hs _ (List.getElem_mem _)
  have c0 := ixC_at (s := s) (k := .i64) (n := 0) hl
  obtain ⟨rr, t1, t2⟩ := g0_at σ (s.getD 0 0) hb
  obtain ⟨r2, a1, a2⟩ := hc.acc σ
  have hwr := hc.wr
  have hand := hc.and
  simp only [Int.cast_ofNat_Int, Int.natCast_zero, Int.natCast_one] at c0 hwr hand
  rw [hx] at t2
  have ha : ¬ ((s.getD 0 0 : Nat) : Int) < 128 := by omega
  rw [Ew_loop] at hr
  by_cases k0 : (s.length : Int) < 3
  · simp only [L64_2, sA, reduceIte, Nat.reduceEqDiff, Int.reduceLT, Int.reduceLE, Int.reduceEq, Int.reduceNeg, reduceCtorEq, Nat.reduceAdd, sD, sM, h0, hpos, c0, ha, opSlStr_from, opIxStr_s, opIaArr_s, ev_g0, ev_g1, t1, t2, hc.shr, a1, a2, hwr, hand, k0] at hr
    exact ⟨_, _, (Fr.new _ _).put (Nat.le_refl _) _, .inl ⟨by omega, hr.symm, by simp only [sV, Nat.reduceEqDiff, reduceIte, Nat.reduceAdd]⟩⟩
  have c1 := ixC_at (s := s) (k := .i64) (n := 1) (by omega)
  have c2 := ixC_at (s := s) (k := .i64) (n := 2) (by omega)
  simp only [Int.cast_ofNat_Int, Int.natCast_zero, Int.natCast_one] at c1 c2
  by_cases k1 : ((s.getD 1 0 : Nat) : Int) < (lo : Int)
  · simp only [L64_2, sA, reduceIte, Nat.reduceEqDiff, Int.reduceLT, Int.reduceLE, Int.reduceEq, Int.reduceNeg, reduceCtorEq, Nat.reduceAdd, sD, sM, h0, hpos, c0, ha, opSlStr_from, opIxStr_s, opIaArr_s, ev_g0, ev_g1, t1, t2, hc.shr, a1, a2, hwr, hand, k0, c1, c2, k1] at hr
    exact ⟨_, _, (Fr.new _ _).put (Nat.le_refl _) _, .inl ⟨by omega, hr.symm, by simp only [sV, Nat.reduceEqDiff, reduceIte, Nat.reduceAdd]⟩⟩
  by_cases k2 : (hi : Int) < ((s.getD 1 0 : Nat) : Int)
  · simp only [L64_2, sA, reduceIte, Nat.reduceEqDiff, Int.reduceLT, Int.reduceLE, Int.reduceEq, Int.reduceNeg, reduceCtorEq, Nat.reduceAdd, sD, sM, h0, hpos, c0, ha, opSlStr_from, opIxStr_s, opIaArr_s, ev_g0, ev_g1, t1, t2, hc.shr, a1, a2, hwr, hand, k0, c1, c2, k1, k2] at hr
    exact ⟨_, _, (Fr.new _ _).put (Nat.le_refl _) _, .inl ⟨by omega, hr.symm, by simp only [sV, Nat.reduceEqDiff, reduceIte, Nat.reduceAdd]⟩⟩
  by_cases k3 : ((s.getD 2 0 : Nat) : Int) < 128
  · simp only [L64_2, sA, reduceIte, Nat.reduceEqDiff, Int.reduceLT, Int.reduceLE, Int.reduceEq, Int.reduceNeg, reduceCtorEq, Nat.reduceAdd, sD, sM, h0, hpos, c0, ha, opSlStr_from, opIxStr_s, opIaArr_s, ev_g0, ev_g1, t1, t2, hc.shr, a1, a2, hwr, hand, k0, c1, c2, k1, k2, k3] at hr
    exact ⟨_, _, (Fr.new _ _).put (Nat.le_refl _) _, .inl ⟨by omega, hr.symm, by simp only [sV, Nat.reduceEqDiff, reduceIte, Nat.reduceAdd]⟩⟩
  by_cases k4 : 191 < ((s.getD 2 0 : Nat) : Int)
  · simp only [L64_2, sA, reduceIte, Nat.reduceEqDiff, Int.reduceLT, Int.reduceLE, Int.reduceEq, Int.reduceNeg, reduceCtorEq, Nat.reduceAdd, sD, sM, h0, hpos, c0, ha, opSlStr_from, opIxStr_s, opIaArr_s, ev_g0, ev_g1, t1, t2, hc.shr, a1, a2, hwr, hand, k0, c1, c2, k1, k2, k3, k4] at hr
    exact ⟨_, _, (Fr.new _ _).put (Nat.le_refl _) _, .inl ⟨by omega, hr.symm, by simp only [sV, Nat.reduceEqDiff, reduceIte, Nat.reduceAdd]⟩⟩
  have f := sfrom_nat (s := s) (k := .i64) (n := 3) (by omega)
  simp only [Int.cast_ofNat_Int] at f
  simp only [L64_2, sA, reduceIte, Nat.reduceEqDiff, Int.reduceLT, Int.reduceLE, Int.reduceEq, Int.reduceNeg, reduceCtorEq, Nat.reduceAdd, sD, sM, h0, hpos, c0, ha, opSlStr_from, opIxStr_s, opIaArr_s, ev_g0, ev_g1, t1, t2, hc.shr, a1, a2, hwr, hand, k0, c1, c2, k1, k2, k3, k4, f] at hr
  exact ⟨_, _, (Fr.new _ _).put (Nat.le_refl _) _, .inr ⟨by omega, hr, by simp only [sV, Nat.reduceEqDiff, reduceIte, Nat.reduceAdd]⟩⟩

theorem valid_4 {x ai lo hi : Nat} (hc : Cls x 4 ai lo hi) (hx : xS (s.getD 0 0) = x) (hs : ∀ c ∈ s, c < 256) (hl : 0 < s.length) (hr : Ew TS false (.loop L64_2) env σ = r) (h0 : V env 0 = .str s) (h128 : ¬ s.getD 0 0 < 128) :
    ∃ e σ', Fr σ σ' ∧ ((¬ (4 ≤ s.length ∧ lo ≤ s.getD 1 0 ∧ s.getD 1 0 ≤ hi ∧ 128 ≤ s.getD 2 0 ∧ s.getD 2 0 ≤ 191 ∧ 128 ≤ s.getD 3 0 ∧ s.getD 3 0 ≤ 191) ∧ r = some (.ret, e, σ') ∧ V e 2 = .bool false) ∨
      ((4 ≤ s.length ∧ lo ≤ s.getD 1 0 ∧ s.getD 1 0 ≤ hi ∧ 128 ≤ s.getD 2 0 ∧ s.getD 2 0 ≤ 191 ∧ 128 ≤ s.getD 3 0 ∧ s.getD 3 0 ≤ 191) ∧ Ew TS false (.loop L64_2) e σ' = r ∧ V e 0 = .str (s.drop 4))) := by
  have hpos : (0 : Int) < (s.length : Int) := by omega
  have hb : s.getD 0 0 < 256 := by rw [List.getD_eq_getElem?_getD, List.getElem?_eq_getElem hl]; exact hs _ (List.getElem_mem _)
  have c0 := ixC_at (s := s) (k := .i64) (n := 0) hl
  obtain ⟨rr, t1, t2⟩ := g0_at σ (s.getD 0 0) hb
  obtain ⟨r2, a1, a2⟩ := hc.acc σ
  have hwr := hc.wr
  have hand := hc.and
  simp only [Int.cast_ofNat_Int, Int.natCast_zero, Int.natCast_one] at c0 hwr hand
  rw [hx] at t2
  have ha : ¬ ((s.getD 0 0 : Nat) : Int) < 128 := by omega
  rw [Ew_loop] at hr
  by_cases k0 : (s.length : Int) < 4
  · simp only [L64_2, sA, reduceIte, Nat.reduceEqDiff, Int.reduceLT, Int.reduceLE, Int.reduceEq, Int.reduceNeg, reduceCtorEq, Nat.reduceAdd, sD, sM, h0, hpos, c0, ha, opSlStr_from, opIxStr_s, opIaArr_s, ev_g0, ev_g1, t1, t2, hc.shr, a1, a2, hwr, hand, k0] at hr
    exact ⟨_, _, (Fr.new _ _).put (Nat.le_refl _) _, .inl ⟨by omega, hr.symm, by simp only [sV, Nat.reduceEqDiff, reduceIte, Nat.reduceAdd]⟩⟩
  have c1 := ixC_at (s := s) (k := .i64) (n := 1) (by omega)
  have c2 := ixC_at (s := s) (k := .i64) (n := 2) (by omega)
  have c3 := ixC_at (s := s) (k := .i64) (n := 3) (by omega)
  simp only [Int.cast_ofNat_Int, Int.natCast_zero, Int.natCast_one] at c1 c2 c3
  by_cases k1 : ((s.getD 1 0 : Nat) : Int) < (lo : Int)
  · simp only [L64_2, sA, reduceIte, Nat.reduceEqDiff, Int.reduceLT, Int.reduceLE, Int.reduceEq, Int.reduceNeg, reduceCtorEq, Nat.reduceAdd, sD, sM, h0, hpos, c0, ha, opSlStr_from, opIxStr_s, opIaArr_s, ev_g0, ev_g1, t1, t2, hc.shr, a1, a2, hwr, hand, k0, c1, c2, c3, k1] at hr
    exact ⟨_, _, (Fr.new _ _).put (Nat.le_refl _) _, .inl ⟨by omega, hr.symm, by simp only [sV, Nat.reduceEqDiff, reduceIte, Nat.reduceAdd]⟩⟩
  by_cases k2 : (hi : Int) < ((s.getD 1 0 : Nat) : Int)
  · simp only [L64_2, sA, reduceIte, Nat.reduceEqDiff, Int.reduceLT, Int.reduceLE, Int.reduceEq, Int.reduceNeg, reduceCtorEq, Nat.reduceAdd, sD, sM, h0, hpos, c0, ha, opSlStr_from, opIxStr_s, opIaArr_s, ev_g0, ev_g1, t1, t2, hc.shr, a1, a2, hwr, hand, k0, c1, c2, c3, k1, k2] at hr
    exact ⟨_, _, (Fr.new _ _).put (Nat.le_refl _) _, .inl ⟨by omega, hr.symm, by simp only [sV, Nat.reduceEqDiff, reduceIte, Nat.reduceAdd]⟩⟩
  by_cases k3 : ((s.getD 2 0 : Nat) : Int) < 128
  · simp only [L64_2, sA, reduceIte, Nat.reduceEqDiff, Int.reduceLT, Int.reduceLE, Int.reduceEq, Int.reduceNeg, reduceCtorEq, Nat.reduceAdd, sD, sM, h0, hpos, c0, ha, opSlStr_from, opIxStr_s, opIaArr_s, ev_g0, ev_g1, t1, t2, hc.shr, a1, a2, hwr, hand, k0, c1, c2, c3, k1, k2, k3] at hr
    exact ⟨_, _, (Fr.new _ _).put (Nat.le_refl _) _, .inl ⟨by omega, hr.symm, by simp only [sV, Nat.reduceEqDiff, reduceIte, Nat.reduceAdd]⟩⟩
  by_cases k4 : 191 < ((s.getD 2 0 : Nat) : Int)
  · simp only [L64_2, sA, reduceIte, Nat.reduceEqDiff, Int.reduceLT, Int.reduceLE, Int.reduceEq, Int.reduceNeg, reduceCtorEq, Nat.reduceAdd, sD, sM, h0, hpos, c0, ha, opSlStr_from, opIxStr_s, opIaArr_s, ev_g0, ev_g1, t1, t2, hc.shr, a1, a2, hwr, hand, k0, c1, c2, c3, k1, k2, k3, k4] at hr
    exact ⟨_, _, (Fr.new _ _).put (Nat.le_refl _) _, .inl ⟨by omega, hr.symm, by simp only [sV, Nat.reduceEqDiff, reduceIte, Nat.reduceAdd]⟩⟩
  by_cases k5 : ((s.getD 3 0 : Nat) : Int) < 128
  · simp only [L64_2, sA, reduceIte, Nat.reduceEqDiff, Int.reduceLT, Int.reduceLE, Int.reduceEq, Int.reduceNeg, reduceCtorEq, Nat.reduceAdd, sD, sM, h0, hpos, c0, ha, opSlStr_from, opIxStr_s, opIaArr_s, ev_g0, ev_g1, t1, t2, hc.shr, a1, a2, hwr, hand, k0, c1, c2, c3, k1, k2, k3, k4, k5] at hr
    exact ⟨_, _, (Fr.new _ _).put (Nat.le_refl _) _, .inl ⟨by omega, hr.symm, by simp only [sV, Nat.reduceEqDiff, reduceIte, Nat.reduceAdd]⟩⟩
  by_cases k6 : 191 < ((s.getD 3 0 : Nat) : Int)
  · simp only [L64_2, sA, reduceIte, Nat.reduceEqDiff, Int.reduceLT, Int.reduceLE, Int.reduceEq, Int.reduceNeg, reduceCtorEq, Nat.reduceAdd, sD, sM, h0, hpos, c0, ha, opSlStr_from, opIxStr_s, opIaArr_s, ev_g0, ev_g1, t1, t2, hc.shr, a1, a2, hwr, hand, k0, c1, c2, c3, k1, k2, k3, k4, k5, k6] at hr
    exact ⟨_, _, (Fr.new _ _).put (Nat.le_refl _) _, .inl ⟨by omega, hr.symm, by simp only [sV, Nat.reduceEqDiff, reduceIte, Nat.reduceAdd]⟩⟩
  have f := sfrom_nat (s := s) (k := .i64) (n := 4) (by omega)
  simp only [Int.cast_ofNat_Int] at f
  simp only [L64_2, sA, reduceIte, Nat.reduceEqDiff, Int.reduceLT, Int.reduceLE, Int.reduceEq, Int.reduceNeg, reduceCtorEq, Nat.reduceAdd, sD, sM, h0, hpos, c0, ha, opSlStr_from, opIxStr_s, opIaArr_s, ev_g0, ev_g1, t1, t2, hc.shr, a1, a2, hwr, hand, k0, c1, c2, c3, k1, k2, k3, k4, k5, k6, f] at hr
  exact ⟨_, _, (Fr.new _ _).put (Nat.le_refl _) _, .inr ⟨by omega, hr, by simp only [sV, Nat.reduceEqDiff, reduceIte, Nat.reduceAdd]⟩⟩
end

set_option maxHeartbeats 2000000 in
/-- One turn of the loop, at a byte below 128. -/
theorem valid_step1 {s : List Nat} {env : Env} {σ : St} {r : Option (Out × Env × St)} (hs : ∀ c ∈ s, c < 256) (hb : s.length < 9223372036854775808) (hl : 0 < s.length) (hr : Ew TS false (.loop L64_2) env σ = r) (h0 : V env 0 = .str s) (h128 : s.getD 0 0 < 128) :
    ∃ e σ', Fr σ σ' ∧ ((validS s = false ∧ r = some (.ret, e, σ') ∧ V e 2 = .bool false) ∨
      ∃ s', Ew TS false (.loop L64_2) e σ' = r ∧ V e 0 = .str s' ∧ validS s' = validS s ∧ s'.length < s.length ∧ (∀ c ∈ s', c < 256)) := by
  · have hpos : (0 : Int) < (s.length : Int) := by omega
    have c0 := ixC_at (s := s) (k := .i64) (n := 0) hl
    have f1 := sfrom_nat (s := s) (k := .i64) (n := 1) (by omega)
    simp only [Int.cast_ofNat_Int, Int.natCast_zero, Int.natCast_one] at c0 f1
    have ha : ((s.getD 0 0 : Nat) : Int) < 128 := by omega
    have v1 := validS_ascii hl h128
    have hs1 := drop_bytes hs 1
    rw [Ew_loop] at hr
    by_cases k1 : (8 : Int) < ((s.drop 1).length : Int)
    · have w1 := word_ok false (s.drop 1) σ hs1 (by omega)
      have f8 := sfrom_nat (s := s.drop 1) (k := .i64) (n := 8) (by omega)
      simp only [Int.cast_ofNat_Int] at f8
      by_cases k2 : hiAnd (wordS (s.drop 1)) = 0
      · have v8 := word_valid hs1 (by omega) (hi_zero k2)
        have hs8 := drop_bytes hs1 8
        have k2 := eq_true k2
        have hpr : (decide ((wordS (s.drop 1)) = 0)) = (decide ((wordS (s.drop 1)) = 0)) := rfl
        by_cases k3 : (16 : Int) < (((s.drop 1).drop 8).length : Int)
        · have w2 := word_ok true ((s.drop 1).drop 8) σ hs8 (by omega)
          have w3 := word_ok true (((s.drop 1).drop 8).drop 8) σ (drop_bytes hs8 8) (by simp only [List.length_drop] at k3 ⊢; omega)
          have g8 := sfrom_nat (s := (s.drop 1).drop 8) (k := .i64) (n := 8) (by omega)
          have g16 := sfrom_nat (s := (s.drop 1).drop 8) (k := .i64) (n := 16) (by omega)
          simp only [Int.cast_ofNat_Int] at g8 g16
          by_cases k4 : hiAnd (wOr (wordS ((s.drop 1).drop 8)) (wordS (((s.drop 1).drop 8).drop 8))) = 0
          · obtain ⟨n1, n2⟩ := (hi_zero k4).or
            have v2 := word_valid hs8 (by omega) n1
            have v3 := word_valid (drop_bytes hs8 8) (by simp only [List.length_drop] at k3 ⊢; omega) n2
            have k4 := eq_true k4
            have hin : ∀ e, V e 0 = .str (((s.drop 1).drop 8).drop 16) → Ew TS false (.loop L64_1) e σ = some (.exit 2, nx TS false (.loop L64_1) σ e, σ) := by
              intro e he
              obtain ⟨e1, s', g1, -⟩ := valid_in _ _ _ σ _ (Nat.le_refl _) (drop_bytes hs8 16) (by simp only [List.length_drop]; omega) rfl he
              unfold nx; rw [g1]
            have hin2 : ∀ e, V e 0 = .str (((s.drop 1).drop 8).drop 16) → V (nx TS false (.loop L64_1) σ e) 0 = .str (strV (V (nx TS false (.loop L64_1) σ e) 0)) ∧ validS (strV (V (nx TS false (.loop L64_1) σ e) 0)) = validS (((s.drop 1).drop 8).drop 16) ∧ (strV (V (nx TS false (.loop L64_1) σ e) 0)).length ≤ (((s.drop 1).drop 8).drop 16).length ∧ (∀ c ∈ (strV (V (nx TS false (.loop L64_1) σ e) 0)), c < 256) := by
              intro e he
              obtain ⟨e1, s', g1, g2, g3, g4, g5⟩ := valid_in _ _ _ σ _ (Nat.le_refl _) (drop_bytes hs8 16) (by simp only [List.length_drop]; omega) rfl he
              have : V (nx TS false (.loop L64_1) σ e) 0 = .str s' := by unfold nx; rw [g1]; exact g2
              rw [this]
              exact ⟨rfl, g3, g4, g5⟩
            simp only [L64_2, sA, reduceIte, Nat.reduceEqDiff, Int.reduceLT, Int.reduceLE, Int.reduceEq, Int.reduceNeg, reduceCtorEq, Nat.reduceAdd, sD, opCall, argsOf, h0, hpos, c0, ha, opSlStr_from, opIxStr_s, f1, k1, w1, ia_or64, ia_hi64, k2, f8, k3, w2, w3, g8, g16, k4, hin] at hr
            refine ⟨_, _, Fr.refl _, .inr ⟨_, hr, (hin2 _ (by simp only [sV, Nat.reduceEqDiff, reduceIte, Nat.reduceAdd])).1, ?_, ?_, (hin2 _ (by simp only [sV, Nat.reduceEqDiff, reduceIte, Nat.reduceAdd])).2.2.2⟩⟩
            · refine (hin2 _ (by simp only [sV, Nat.reduceEqDiff, reduceIte, Nat.reduceAdd])).2.1.trans ?_
              rw [v1, v8, v2, v3]
              simp only [List.drop_drop, Nat.reduceAdd]
            · refine Nat.lt_of_le_of_lt (hin2 _ (by simp only [sV, Nat.reduceEqDiff, reduceIte, Nat.reduceAdd])).2.2.1 ?_
              simp only [List.length_drop]; omega
          · simp only [L64_2, sA, reduceIte, Nat.reduceEqDiff, Int.reduceLT, Int.reduceLE, Int.reduceEq, Int.reduceNeg, reduceCtorEq, Nat.reduceAdd, sD, opCall, argsOf, h0, hpos, c0, ha, opSlStr_from, opIxStr_s, f1, k1, w1, ia_or64, ia_hi64, k2, f8, k3, w2, w3, g8, g16, k4] at hr
            exact ⟨_, _, Fr.refl _, .inr ⟨_, hr, by simp only [sV, Nat.reduceEqDiff, reduceIte, Nat.reduceAdd], by rw [v1, v8], by simp only [List.length_drop]; omega, hs8⟩⟩
        · simp only [L64_2, sA, reduceIte, Nat.reduceEqDiff, Int.reduceLT, Int.reduceLE, Int.reduceEq, Int.reduceNeg, reduceCtorEq, Nat.reduceAdd, sD, opCall, argsOf, h0, hpos, c0, ha, opSlStr_from, opIxStr_s, f1, k1, w1, ia_or64, ia_hi64, k2, f8, k3] at hr
          exact ⟨_, _, Fr.refl _, .inr ⟨_, hr, by simp only [sV, Nat.reduceEqDiff, reduceIte, Nat.reduceAdd], by rw [v1, v8], by simp only [List.length_drop]; omega, hs8⟩⟩
      · simp only [L64_2, sA, reduceIte, Nat.reduceEqDiff, Int.reduceLT, Int.reduceLE, Int.reduceEq, Int.reduceNeg, reduceCtorEq, Nat.reduceAdd, sD, opCall, argsOf, h0, hpos, c0, ha, opSlStr_from, opIxStr_s, f1, k1, w1, ia_or64, ia_hi64, k2] at hr
        exact ⟨_, _, Fr.refl _, .inr ⟨_, hr, by simp only [sV, Nat.reduceEqDiff, reduceIte, Nat.reduceAdd], by rw [v1], by simp only [List.length_drop]; omega, hs1⟩⟩
    · simp only [L64_2, sA, reduceIte, Nat.reduceEqDiff, Int.reduceLT, Int.reduceLE, Int.reduceEq, Int.reduceNeg, reduceCtorEq, Nat.reduceAdd, sD, opCall, argsOf, h0, hpos, c0, ha, opSlStr_from, opIxStr_s, f1, k1] at hr
      exact ⟨_, _, Fr.refl _, .inr ⟨_, hr, by simp only [sV, Nat.reduceEqDiff, reduceIte, Nat.reduceAdd], by rw [v1], by simp only [List.length_drop]; omega, hs1⟩⟩

set_option maxHeartbeats 2000000 in
/-- One turn of the loop. -/
theorem valid_step {s : List Nat} {env : Env} {σ : St} {r : Option (Out × Env × St)} (hs : ∀ c ∈ s, c < 256) (hb : s.length < 9223372036854775808) (hl : 0 < s.length) (hr : Ew TS false (.loop L64_2) env σ = r) (h0 : V env 0 = .str s) :
    ∃ e σ', Fr σ σ' ∧ ((validS s = false ∧ r = some (.ret, e, σ') ∧ V e 2 = .bool false) ∨
      ∃ s', Ew TS false (.loop L64_2) e σ' = r ∧ V e 0 = .str s' ∧ validS s' = validS s ∧ s'.length < s.length ∧ (∀ c ∈ s', c < 256)) := by
  by_cases h128 : s.getD 0 0 < 128
  · exact valid_step1 hs hb hl hr h0 h128
  · have hb0 : s.getD 0 0 < 256 := by rw [List.getD_eq_getElem?_getD, List.getElem?_eq_getElem hl]; exact hs _ (List.getElem_mem _)
    have bad : ∀ {x ai lo hi : Nat}, Cls x 1 ai lo hi → xS (s.getD 0 0) = x → accS (s.getD 0 0) = none → ∃ e σ', Fr σ σ' ∧ ((validS s = false ∧ r = some (.ret, e, σ') ∧ V e 2 = .bool false) ∨
      ∃ s', Ew TS false (.loop L64_2) e σ' = r ∧ V e 0 = .str s' ∧ validS s' = validS s ∧ s'.length < s.length ∧ (∀ c ∈ s', c < 256)) := by
      intro x ai lo hi hc hx hacc
      obtain ⟨e, σ', a, b, c⟩ := valid_bad hc hx hs hl hr h0 h128
      exact ⟨e, σ', a, .inl ⟨validS_none hl (by unfold cutS; rw [if_neg h128, hacc]), b, c⟩⟩
    have fin : ∀ (n lo hi : Nat), 2 ≤ n → accS (s.getD 0 0) = some (n, lo, hi) → (C : Prop) → (C ↔ (n ≤ s.length ∧ lo ≤ s.getD 1 0 ∧ s.getD 1 0 ≤ hi ∧ (3 ≤ n → 128 ≤ s.getD 2 0 ∧ s.getD 2 0 ≤ 191) ∧ (4 ≤ n → 128 ≤ s.getD 3 0 ∧ s.getD 3 0 ≤ 191))) →
        (∃ e σ', Fr σ σ' ∧ ((¬ C ∧ r = some (.ret, e, σ') ∧ V e 2 = .bool false) ∨ (C ∧ Ew TS false (.loop L64_2) e σ' = r ∧ V e 0 = .str (s.drop n)))) → ∃ e σ', Fr σ σ' ∧ ((validS s = false ∧ r = some (.ret, e, σ') ∧ V e 2 = .bool false) ∨
      ∃ s', Ew TS false (.loop L64_2) e σ' = r ∧ V e 0 = .str s' ∧ validS s' = validS s ∧ s'.length < s.length ∧ (∀ c ∈ s', c < 256)) := by
      intro n lo hi hn hacc C hC h
      obtain ⟨e, σ', a, ⟨b, c, d⟩ | ⟨b, c, d⟩⟩ := h
      · refine ⟨e, σ', a, .inl ⟨validS_none hl ?_, c, d⟩⟩
        unfold cutS; rw [if_neg h128, hacc]; simp only; rw [if_neg (fun hh => b (hC.2 hh))]
      · refine ⟨e, σ', a, .inr ⟨_, c, d, ?_, ?_, drop_bytes hs n⟩⟩
        · refine (validS_some hl (by omega) ?_).symm
          unfold cutS; rw [if_neg h128, hacc]; simp only; rw [if_pos (hC.1 b)]
        · simp only [List.length_drop]; omega
    have hx : ∀ x, x = s.getD 0 0 → x < 194 ∨ (194 ≤ x ∧ x ≤ 223) ∨ x = 224 ∨ (225 ≤ x ∧ x ≤ 236) ∨ x = 237 ∨ (238 ≤ x ∧ x ≤ 239) ∨ x = 240 ∨ (241 ≤ x ∧ x ≤ 243) ∨ x = 244 ∨ 245 ≤ x := by intro x _; omega
    have ex : ∀ (v : Nat), (∀ a, a < 256 → ¬ a < 128 → a = s.getD 0 0 → xS a = v) → xS (s.getD 0 0) = v := fun v h => h _ hb0 h128 rfl
    rcases hx _ rfl with h | h | h | h | h | h | h | h | h | h
    · exact bad cls241 (by unfold xS; rw [if_neg h128, if_pos (by omega)]) (by unfold accS; rw [if_pos (by omega)])
    · exact fin 2 128 191 (by omega) (by unfold accS; rw [if_neg (by omega), if_pos (by omega)]) _ (by omega) (valid_2 cls2 (by unfold xS; rw [if_neg h128, if_neg (by omega), if_pos (by omega)]) hs hl hr h0 h128)
    · exact fin 3 160 191 (by omega) (by unfold accS; rw [h]; rfl) _ (by omega) (valid_3 cls19 (by unfold xS; rw [h]; rfl) hs hl hr h0 h128)
    · exact fin 3 128 191 (by omega) (by unfold accS; rw [if_neg (by omega), if_neg (by omega), if_neg (by omega), if_pos (by omega)]) _ (by omega) (valid_3 cls3 (by unfold xS; rw [if_neg h128, if_neg (by omega), if_neg (by omega), if_neg (by omega), if_pos (by omega)]) hs hl hr h0 h128)
    · exact fin 3 128 159 (by omega) (by unfold accS; rw [h]; rfl) _ (by omega) (valid_3 cls35 (by unfold xS; rw [h]; rfl) hs hl hr h0 h128)
    · exact fin 3 128 191 (by omega) (by unfold accS; rw [if_neg (by omega), if_neg (by omega), if_neg (by omega), if_neg (by omega), if_neg (by omega), if_pos (by omega)]) _ (by omega) (valid_3 cls3 (by unfold xS; rw [if_neg h128, if_neg (by omega), if_neg (by omega), if_neg (by omega), if_neg (by omega), if_neg (by omega), if_pos (by omega)]) hs hl hr h0 h128)
    · exact fin 4 144 191 (by omega) (by unfold accS; rw [h]; rfl) _ (by omega) (valid_4 cls52 (by unfold xS; rw [h]; rfl) hs hl hr h0 h128)
    · exact fin 4 128 191 (by omega) (by unfold accS; rw [if_neg (by omega), if_neg (by omega), if_neg (by omega), if_neg (by omega), if_neg (by omega), if_neg (by omega), if_neg (by omega), if_pos (by omega)]) _ (by omega) (valid_4 cls4 (by unfold xS; rw [if_neg h128, if_neg (by omega), if_neg (by omega), if_neg (by omega), if_neg (by omega), if_neg (by omega), if_neg (by omega), if_neg (by omega), if_pos (by omega)]) hs hl hr h0 h128)
    · exact fin 4 128 143 (by omega) (by unfold accS; rw [h]; rfl) _ (by omega) (valid_4 cls68 (by unfold xS; rw [h]; rfl) hs hl hr h0 h128)
    · exact bad cls241 (by unfold xS; rw [if_neg h128, if_neg (by omega), if_neg (by omega), if_neg (by omega), if_neg (by omega), if_neg (by omega), if_neg (by omega), if_neg (by omega), if_neg (by omega), if_neg (by omega)]) (by unfold accS; rw [if_neg (by omega), if_neg (by omega), if_neg (by omega), if_neg (by omega), if_neg (by omega), if_neg (by omega), if_neg (by omega), if_neg (by omega), if_neg (by omega)])

set_option maxHeartbeats 1000000 in
theorem valid_loop : ∀ (m : Nat) (s : List Nat) (env : Env) (σ : St) (r : Option (Out × Env × St)), s.length ≤ m → (∀ c ∈ s, c < 256) → s.length < 9223372036854775808 → Ew TS false (.loop L64_2) env σ = r → V env 0 = .str s →
    ∃ e σ', Fr σ σ' ∧ ((validS s = true ∧ r = some (.exit 0, e, σ')) ∨ (validS s = false ∧ r = some (.ret, e, σ') ∧ V e 2 = .bool false))
  | m, s, env, σ, r, hm, hs, hb, hr, h0 => by
    by_cases hl : 0 < s.length
    · obtain ⟨e, σ', hf, h | ⟨s', h1, h2, h3, h4, h5⟩⟩ := valid_step hs hb hl hr h0
      · exact ⟨e, σ', hf, .inr h⟩
      · cases m with
        | zero => omega
        | succ m =>
          obtain ⟨e2, σ2, hf2, hh⟩ := valid_loop m s' e σ' r (by omega) h5 (by omega) h1 h2
          rw [h3] at hh
          exact ⟨e2, σ2, hf.trans hf2, hh⟩
    · have : s = [] := List.eq_nil_of_length_eq_zero (by omega)
      subst this
      rw [Ew_loop] at hr
      simp only [L64_2, sA, reduceIte, Nat.reduceEqDiff, Int.reduceLT, Int.reduceLE, Int.reduceEq, Int.reduceNeg, reduceCtorEq, Nat.reduceAdd, h0, List.length_nil, Int.natCast_zero, Int.lt_irrefl] at hr
      exact ⟨_, _, Fr.refl _, .inl ⟨validS_nil, hr.symm⟩⟩

theorem Valid_ok (s : List Nat) (σ : St) (hs : ∀ c ∈ s, c < 256) (hb : s.length < 9223372036854775808) :
    ∃ σ', Fr σ σ' ∧ Cw TS false 64 [.str s] σ = some (.bool (validS s), σ') := by
  rw [Cw_of fn64 false _ σ rfl]
  simp only [c64, sA, reduceIte, Nat.reduceEqDiff, Int.reduceLT, Int.reduceLE, Int.reduceEq, Int.reduceNeg, reduceCtorEq, Nat.reduceAdd]
  generalize hr : Ew TS false (.loop L64_2) _ σ = r
  obtain ⟨e, σ', hf, ⟨h1, rfl⟩ | ⟨h1, rfl, h3⟩⟩ := valid_loop s.length s _ σ r (Nat.le_refl _) hs hb hr (by simp only [sV, Nat.reduceEqDiff, reduceIte, Nat.reduceAdd])
  · exact ⟨σ', hf, by simp only [sA, reduceIte, Nat.reduceEqDiff, Int.reduceLT, Int.reduceLE, Int.reduceEq, Int.reduceNeg, reduceCtorEq, Nat.reduceAdd, h1]⟩
  · exact ⟨σ', hf, by simp only [sA, reduceIte, Nat.reduceEqDiff, Int.reduceLT, Int.reduceLE, Int.reduceEq, Int.reduceNeg, reduceCtorEq, Nat.reduceAdd, h1, h3]⟩

/-- May a string stand in a tree? -/
def wellS (s : List Nat) : Bool := validS s && s.all fun c => decide (c ≠ 0)

theorem indexByte_neg : ∀ (s : List Nat) (i : Nat), (match indexByteL 0 s i with | some j => Int.ofNat j | none => -1) < 0 ↔ (s.all fun c => decide (c ≠ 0)) = true
  | [], i => by simp [indexByteL]
  | x :: l, i => by
    rw [indexByteL]
    by_cases h : x = 0
    · subst h; simp
    · rw [if_neg h, indexByte_neg l (i + 1)]; simp [h]

theorem well_ok (s : List Nat) (σ : St) (hs : ∀ c ∈ s, c < 256) (hb : s.length < 9223372036854775808) :
    ∃ σ', Fr σ σ' ∧ Cw TS false 42 [.str s] σ = some (.bool (wellS s), σ') := by
  obtain ⟨σ', hf, hv⟩ := Valid_ok s σ hs hb
  refine ⟨σ', hf, ?_⟩
  have hi : ∀ τ, Cw TS false 59 [.str s, .int .u8 0] τ = some (.int .i64 (match indexByteL 0 s 0 with | some j => Int.ofNat j | none => -1), τ) := by
    intro τ
    have h77 : Cw TS false 77 [.str s, .int .u8 0] τ = some (.int .i64 (match indexByteL 0 s 0 with | some j => Int.ofNat j | none => -1), τ) := by
      rw [Cw_of fn77 false _ τ rfl]
      have he : extRun .indexByte [.str s, .int .u8 0] = some (.int .i64 (match indexByteL 0 s 0 with | some j => Int.ofNat j | none => -1)) := by
        show some (optInt (indexByteL 0 s 0)) = _
        cases indexByteL 0 s 0 <;> rfl
      simp only [c77, sA, reduceIte, Nat.reduceEqDiff, Int.reduceLT, Int.reduceLE, Int.reduceEq, Int.reduceNeg, reduceCtorEq, Nat.reduceAdd, opExt, argsOf, he]
    rw [Cw_of fn59 false _ τ rfl]
    simp only [c59, sA, reduceIte, Nat.reduceEqDiff, Int.reduceLT, Int.reduceLE, Int.reduceEq, Int.reduceNeg, reduceCtorEq, Nat.reduceAdd, opCall, argsOf, h77]
  have hi := hi σ'
  rw [Cw_of fn42 false _ σ rfl]
  by_cases hz : (match indexByteL 0 s 0 with | some j => Int.ofNat j | none => -1) < 0
  · have hz2 := (indexByte_neg s 0).1 hz
    generalize (match indexByteL 0 s 0 with | some j => Int.ofNat j | none => -1) = z at hi hz
    cases hvs : validS s with
    | true =>
      rw [hvs] at hv
      simp only [c42, sA, reduceIte, Nat.reduceEqDiff, Int.reduceLT, Int.reduceLE, Int.reduceEq, Int.reduceNeg, reduceCtorEq, Nat.reduceAdd, opCall, argsOf, hv, hi, hz, wellS, hvs, hz2, Bool.and_self]
    | false =>
      rw [hvs] at hv
      simp only [c42, sA, reduceIte, Nat.reduceEqDiff, Int.reduceLT, Int.reduceLE, Int.reduceEq, Int.reduceNeg, reduceCtorEq, Nat.reduceAdd, opCall, argsOf, hv, wellS, hvs, Bool.false_and]
  · have hz2 : (s.all fun c => decide (c ≠ 0)) = false := by
      cases h : (s.all fun c => decide (c ≠ 0)) with
      | false => rfl
      | true => exact absurd ((indexByte_neg s 0).2 h) hz
    generalize (match indexByteL 0 s 0 with | some j => Int.ofNat j | none => -1) = z at hi hz
    cases hvs : validS s with
    | true =>
      rw [hvs] at hv
      simp only [c42, sA, reduceIte, Nat.reduceEqDiff, Int.reduceLT, Int.reduceLE, Int.reduceEq, Int.reduceNeg, reduceCtorEq, Nat.reduceAdd, opCall, argsOf, hv, hi, hz, wellS, hvs, hz2, Bool.and_false]
    | false =>
      rw [hvs] at hv
      simp only [c42, sA, reduceIte, Nat.reduceEqDiff, Int.reduceLT, Int.reduceLE, Int.reduceEq, Int.reduceNeg, reduceCtorEq, Nat.reduceAdd, opCall, argsOf, hv, wellS, hvs, Bool.false_and]
end Go.Ab.Dirs
end

set_option maxRecDepth 10000
noncomputable section
namespace Go.Ab.Dirs
open Go Go.Ab

theorem SlI.fr' {σ σ' : St} {s n : Nat} {v : AVal} {cs : List AVal} (h : SlI σ s v n cs) (hf : Fr σ σ') : SlI σ' s v n cs := h.fr hf

/-- The first ones of a slice. -/
theorem SlI.take {σ : St} {s n : Nat} {v : AVal} {cs : List AVal} (h : SlI σ s v n cs) {k : Nat} (hk : k ≤ n) (hs : 0 < s) : ∃ v', slS s v none (some (.int .i64 (k : Int))) none = some v' ∧ SlI σ s v' k (cs.take (k * s)) := by
  have hl := h.cs_len
  have hks : k * s ≤ n * s := Nat.mul_le_mul_right s hk
  obtain ⟨h1, h2⟩ := h
  have hb : ∀ m : Nat, k ≤ m → boundsL m m none (some (.int .i64 (k : Int))) none = some (0, k) := by
    intro m hm
    simp only [boundsL, toNo, toN, Int.toNat_natCast]
    rw [if_pos ⟨by omega, by omega⟩]
  unfold lowV at h1
  split at h1
  · simp only [cellsIn] at h2; cases h2
    have : k = 0 := by omega
    subst this
    exact ⟨.nils, by simp only [slS, hb 0 (by omega)], trivial, by simp [cellsIn]⟩
  · rename_i b i m s'
    simp only [cellsIn] at h2
    split at h2
    · rename_i e; subst e
      split at h2
      · rename_i f e l hg
        split at h2
        · rename_i l' hs'
          cases h2
          obtain ⟨ha, hb'⟩ := sub_eq.1 hs'
          refine ⟨.slice b i k s, ?_, h1, ?_⟩
          · simp only [slS, hb n hk]; simp
          · simp only [cellsIn, hg, if_true]
            rw [sub_eq.2 ⟨by omega, rfl⟩]
            subst hb'
            simp only [List.take_take]
            rw [Nat.min_eq_left hks]
        · simp at h2
      · simp at h2
    · simp at h2
  · rename_i m l
    simp only [cellsIn] at h2
    split at h2
    · rename_i l' ht
      cases h2
      obtain ⟨ha, hb'⟩ := takeX_eq.1 ht
      by_cases h0 : k = 0
      · subst h0
        exact ⟨.rslice 0 [], by simp only [slS, hb n hk]; simp, trivial, by simp [cellsIn, takeX_zero]⟩
      · refine ⟨.rslice k l, ?_, trivial, ?_⟩
        · simp only [slS, hb n hk]
          rw [if_neg (by omega)]
          simp [dropX_zero]
        · simp only [cellsIn]
          rw [takeX_eq.2 ⟨by omega, rfl⟩]
          subst hb'
          simp only [List.take_take]
          rw [Nat.min_eq_left hks]
    · simp at h2
  · exact absurd h1 id

theorem take_flatMap {α β : Type} {f : α → List β} {s : Nat} (hf : ∀ a, (f a).length = s) : ∀ (l : List α) (i : Nat), (l.flatMap f).take (i * s) = (l.take i).flatMap f
  | [], i => by simp
  | a :: l, 0 => by simp
  | a :: l, i + 1 => by
    rw [List.flatMap_cons, List.take_succ_cons, List.flatMap_cons, ← take_flatMap hf l i, Nat.succ_mul]
    rw [show i * s + s = (f a).length + i * s by rw [hf]; omega]
    rw [List.take_length_add_append]

theorem attrs1_ok {bn bv an av : List Nat} {pb : Nat} {f : Bool} {t : TypeId} {σ : St} (hg : σ.get pb = some (.cells f t [.str an, .str av])) (hp : pb < σ.next) :
    ∃ σ', Fr σ σ' ∧ Cw TS false 67 [.agg [.str bn, .str bv], .ptr pb 0] σ = some (.bool (decide (bn = an)), σ') := by
  have hg' : ∀ o, (σ.new o).get pb = some (.cells f t [.str an, .str av]) := fun o => by rw [St.get_new_other _ _ (by omega)]; exact hg
  apply Exists.intro
  refine And.symm (And.intro ?_ ?_)
  · rw [Cw_of fn67 false _ σ rfl]
    simp only [c67, sA, reduceIte, Nat.reduceEqDiff, Int.reduceLT, Int.reduceLE, Int.reduceEq, Int.reduceNeg, reduceCtorEq, Nat.reduceAdd, sM, opBox, hg']
    rfl
  · exact Fr.new _ _

/-- Has one of some attributes this name? -/
def hasN (n : List Nat) (l : List AttrD) : Bool := l.any fun b => decide (b.1 = n)

theorem idxF_loop (v : AVal) (l : List AttrD) (an av : List Nat) (pb : Nat) (f : Bool) (t : TypeId) (hb : l.length < 9223372036854775808) : ∀ (m i : Nat) (env : Env) (σ : St) (r : Option (Out × Env × St)), Ew TS false (.loop L93_1) env σ = r → i + m = l.length → AttrsI σ v l →
    σ.get pb = some (.cells f t [.str an, .str av]) → pb < σ.next →
    V env 0 = v → V env 1 = .func 67 [] [.ptr pb 0] → V env 7 = .int .i64 l.length → V env 8 = .int .i64 i →
    ∃ e σ', Fr σ σ' ∧ ((hasN an (l.drop i) = false ∧ r = some (.exit 0, e, σ')) ∨ (hasN an (l.drop i) = true ∧ r = some (.ret, e, σ') ∧ ∃ j : Nat, V e 4 = .int .i64 (j : Int)))
  | 0, i, env, σ, r, hr, hi, hv, hg, hp, h0, h1, h7, h8 => by
    have hlt : ¬ ((i : Int) < (l.length : Int)) := by omega
    rw [Ew_loop] at hr
    simp only [L93_1, sA, reduceIte, Nat.reduceEqDiff, Int.reduceLT, Int.reduceLE, Int.reduceEq, Int.reduceNeg, reduceCtorEq, Nat.reduceAdd, h0, h1, h7, h8, hlt] at hr
    refine ⟨_, _, Fr.refl _, .inl ⟨?_, hr.symm⟩⟩
    rw [List.drop_eq_nil_of_le (by omega)]; rfl
  | m + 1, i, env, σ, r, hr, hi, hv, hg, hp, h0, h1, h7, h8 => by
    have hlt : ((i : Int) < (l.length : Int)) := by omega
    have his : i < l.length := by omega
    obtain ⟨g1, g2⟩ := hv.get his (k := .i64)
    have hw : wrapI .i64 ((i : Int) + 1) = ((i + 1 : Nat) : Int) := by rw [wrap_i64 (by omega) (by omega)]; omega
    obtain ⟨σ1, hf1, hc⟩ := attrs1_ok (bn := l[i].1) (bv := l[i].2) hg hp
    have hd : hasN an (l.drop i) = (decide (l[i].1 = an) || hasN an (l.drop (i + 1))) := by
      rw [List.drop_eq_getElem_cons his]; rfl
    rw [hd]
    rw [Ew_loop] at hr
    by_cases hx : l[i].1 = an
    · have hx := eq_true hx
      simp only [L93_1, sA, reduceIte, Nat.reduceEqDiff, Int.reduceLT, Int.reduceLE, Int.reduceEq, Int.reduceNeg, reduceCtorEq, Nat.reduceAdd, h0, h1, h7, h8, hlt, opIaSl_s, opLoad_s, g1, g2.ld, opCallV, argsOf, List.nil_append, List.cons_append, hc, hx] at hr
      exact ⟨_, _, hf1, .inr ⟨by simp [hx], hr.symm, i, by simp only [sV, Nat.reduceEqDiff, reduceIte, Nat.reduceAdd]⟩⟩
    · simp only [L93_1, sA, reduceIte, Nat.reduceEqDiff, Int.reduceLT, Int.reduceLE, Int.reduceEq, Int.reduceNeg, reduceCtorEq, Nat.reduceAdd, h0, h1, h7, h8, hlt, opIaSl_s, opLoad_s, g1, g2.ld, opCallV, argsOf, List.nil_append, List.cons_append, hc, hx, hw] at hr
      obtain ⟨e, σ2, hf2, hh⟩ := idxF_loop v l an av pb f t hb m (i + 1) _ σ1 r hr (by omega) (hv.fr hf1) (by rw [hf1.get _ hp]; exact hg) (Nat.lt_of_lt_of_le hp hf1.next) (by simp only [sV, Nat.reduceEqDiff, reduceIte, Nat.reduceAdd, h0]) (by simp only [sV, Nat.reduceEqDiff, reduceIte, Nat.reduceAdd, h1]) (by simp only [sV, Nat.reduceEqDiff, reduceIte, Nat.reduceAdd, h7]) (by simp only [sV, Nat.reduceEqDiff, reduceIte, Nat.reduceAdd])
      refine ⟨e, σ2, hf1.trans hf2, ?_⟩
      simpa [hx] using hh

theorem contF_ok {v : AVal} {l : List AttrD} {an av : List Nat} {pb : Nat} {f : Bool} {t : TypeId} {σ : St} (hv : AttrsI σ v l) (hb : l.length < 9223372036854775808) (hg : σ.get pb = some (.cells f t [.str an, .str av])) (hp : pb < σ.next) :
    ∃ σ', Fr σ σ' ∧ Cw TS false 66 [v, .func 67 [] [.ptr pb 0]] σ = some (.bool (hasN an l), σ') := by
  have hl := SlI.len hv
  have h93 : ∃ σ', Fr σ σ' ∧ ((hasN an l = false ∧ Cw TS false 93 [v, .func 67 [] [.ptr pb 0]] σ = some (.int .i64 (-1), σ')) ∨ (hasN an l = true ∧ ∃ j : Nat, Cw TS false 93 [v, .func 67 [] [.ptr pb 0]] σ = some (.int .i64 (j : Int), σ'))) := by
    rw [Cw_of fn93 false _ σ rfl]
    simp only [c93, sA, reduceIte, Nat.reduceEqDiff, Int.reduceLT, Int.reduceLE, Int.reduceEq, Int.reduceNeg, reduceCtorEq, Nat.reduceAdd, hl]
    generalize hr : Ew TS false (.loop L93_1) _ σ = r
    obtain ⟨e, σ', hf, ⟨h1, rfl⟩ | ⟨h1, rfl, j, h3⟩⟩ := idxF_loop v l an av pb f t hb l.length 0 _ σ r hr (by omega) hv hg hp (by simp only [sV, Nat.reduceEqDiff, reduceIte, Nat.reduceAdd]) (by simp only [sV, Nat.reduceEqDiff, reduceIte, Nat.reduceAdd]) (by simp only [sV, Nat.reduceEqDiff, reduceIte, Nat.reduceAdd]) (by simp only [sV, Nat.reduceEqDiff, reduceIte, Nat.reduceAdd]; rfl)
    · exact ⟨σ', hf, .inl ⟨by simpa using h1, by simp only [sA, reduceIte, Nat.reduceEqDiff, Int.reduceLT, Int.reduceLE, Int.reduceEq, Int.reduceNeg, reduceCtorEq, Nat.reduceAdd]⟩⟩
    · exact ⟨σ', hf, .inr ⟨by simpa using h1, j, by simp only [sA, reduceIte, Nat.reduceEqDiff, Int.reduceLT, Int.reduceLE, Int.reduceEq, Int.reduceNeg, reduceCtorEq, Nat.reduceAdd, h3]⟩⟩
  obtain ⟨σ', hf, ⟨h1, h2⟩ | ⟨h1, j, h2⟩⟩ := h93
  · refine ⟨σ', hf, ?_⟩
    rw [Cw_of fn66 false _ σ rfl]
    simp only [c66, sA, reduceIte, Nat.reduceEqDiff, Int.reduceLT, Int.reduceLE, Int.reduceEq, Int.reduceNeg, reduceCtorEq, Nat.reduceAdd, opCall, argsOf, h2, h1]
  · refine ⟨σ', hf, ?_⟩
    rw [Cw_of fn66 false _ σ rfl]
    simp only [c66, sA, reduceIte, Nat.reduceEqDiff, Int.reduceLT, Int.reduceLE, Int.reduceEq, Int.reduceNeg, reduceCtorEq, Nat.reduceAdd, opCall, argsOf, h2, h1]
end Go.Ab.Dirs
end

set_option maxRecDepth 10000
noncomputable section
namespace Go.Ab.Dirs
open Go Go.Ab

/-- A string of the program. -/
def SWF (s : List Nat) : Prop := (∀ c ∈ s, c < 256) ∧ s.length < 9223372036854775808

def attrOK (pre : List AttrD) (a : AttrD) : Bool := namedS a.1 && (wellS a.2 && !hasN a.1 pre)
def attrsOK : List AttrD → List AttrD → Bool
  | _, [] => true
  | pre, a :: l => attrOK pre a && attrsOK (pre ++ [a]) l
/-- May these be an element's attributes? -/
def attrsS (l : List AttrD) : Bool := attrsOK [] l && decide (l.length ≤ 16)

theorem attrs_loop (v : AVal) (l : List AttrD) (hb : l.length < 9223372036854775808) (hwf : ∀ a ∈ l, SWF a.1 ∧ SWF a.2) : ∀ (m i : Nat) (env : Env) (σ : St) (r : Option (Out × Env × St)), Ew TS false (.loop L43_1) env σ = r → i + m = l.length → AttrsI σ v l →
    V env 0 = v → V env 5 = v → V env 6 = .int .i64 l.length → V env 7 = .int .i64 i →
    ∃ e σ', Fr σ σ' ∧ ((attrsOK (l.take i) (l.drop i) = true ∧ r = some (.exit 0, e, σ') ∧ V e 0 = v) ∨ (attrsOK (l.take i) (l.drop i) = false ∧ r = some (.ret, e, σ') ∧ V e 2 = .bool false))
  | 0, i, env, σ, r, hr, hi, hv, h0, h5, h6, h7 => by
    have hlt : ¬ ((i : Int) < (l.length : Int)) := by omega
    rw [Ew_loop] at hr
    simp only [L43_1, sA, reduceIte, Nat.reduceEqDiff, Int.reduceLT, Int.reduceLE, Int.reduceEq, Int.reduceNeg, reduceCtorEq, Nat.reduceAdd, h0, h5, h6, h7, hlt] at hr
    refine ⟨_, _, Fr.refl _, .inl ⟨?_, hr.symm, by simp only [sV, Nat.reduceEqDiff, reduceIte, Nat.reduceAdd, h0]⟩⟩
    rw [List.drop_eq_nil_of_le (by omega)]; rfl
  | m + 1, i, env, σ, r, hr, hi, hv, h0, h5, h6, h7 => by
    have hlt : ((i : Int) < (l.length : Int)) := by omega
    have his : i < l.length := by omega
    obtain ⟨g1, g2⟩ := hv.get his (k := .i64)
    have hw : wrapI .i64 ((i : Int) + 1) = ((i + 1 : Nat) : Int) := by rw [wrap_i64 (by omega) (by omega)]; omega
    obtain ⟨⟨w1, w2⟩, ⟨w3, w4⟩⟩ := hwf l[i] (List.getElem_mem _)
    have hd : attrsOK (l.take i) (l.drop i) = (attrOK (l.take i) l[i] && attrsOK (l.take (i + 1)) (l.drop (i + 1))) := by
      rw [List.drop_eq_getElem_cons his, attrsOK, List.take_succ_eq_append_getElem his]
    rw [hd]
    obtain ⟨σ2, e2⟩ : ∃ x, x = (σ.new (.cells true 39 [.str [], .str []])).put σ.next (.cells true 39 [.str l[i].1, .str l[i].2]) := ⟨_, rfl⟩
    have hf2 : Fr σ σ2 := by rw [e2]; exact (Fr.new _ _).put (Nat.le_refl _) _
    have hn2 : σ.next < σ2.next := by rw [e2]; exact Nat.lt_succ_self _
    have hg2 : σ2.get σ.next = some (.cells true 39 [.str l[i].1, .str l[i].2]) := by rw [e2, St.get_put_same]
    have hN := named_ok false l[i].1 σ2 w1 w2
    rw [Ew_loop] at hr
    cases hn : namedS l[i].1 with
    | false =>
      rw [hn] at hN
      simp only [L43_1, sA, reduceIte, Nat.reduceEqDiff, Int.reduceLT, Int.reduceLE, Int.reduceEq, Int.reduceNeg, reduceCtorEq, Nat.reduceAdd, sM, h0, h5, h6, h7, hlt, g1, g2.ld, ← e2, hg2, opCall, argsOf, hN] at hr
      exact ⟨_, _, hf2, .inr ⟨by simp [attrOK, hn], hr.symm, by simp only [sV, Nat.reduceEqDiff, reduceIte, Nat.reduceAdd]⟩⟩
    | true =>
      rw [hn] at hN
      obtain ⟨σ3, hf3, hW⟩ := well_ok l[i].2 σ2 w3 w4
      cases hwl : wellS l[i].2 with
      | false =>
        rw [hwl] at hW
        simp only [L43_1, sA, reduceIte, Nat.reduceEqDiff, Int.reduceLT, Int.reduceLE, Int.reduceEq, Int.reduceNeg, reduceCtorEq, Nat.reduceAdd, sM, h0, h5, h6, h7, hlt, g1, g2.ld, ← e2, hg2, opCall, argsOf, hN, hW] at hr
        exact ⟨_, _, hf2.trans hf3, .inr ⟨by simp [attrOK, hn, hwl], hr.symm, by simp only [sV, Nat.reduceEqDiff, reduceIte, Nat.reduceAdd]⟩⟩
      | true =>
        rw [hwl] at hW
        have hv3 : AttrsI σ3 v l := hv.fr (hf2.trans hf3)
        obtain ⟨v', s1, s2⟩ := SlI.take hv3 (k := i) (by omega) (by omega)
        rw [take_flatMap (f := attrCells) (s := 2) (fun _ => rfl)] at s2
        have hv' : AttrsI σ3 v' (l.take i) := by
          unfold AttrsI
          rw [List.length_take, Nat.min_eq_left (by omega)]
          exact s2
        obtain ⟨σ4, hf4, hC⟩ := contF_ok hv' (by rw [List.length_take]; omega) (by rw [hf3.get _ hn2]; exact hg2) (Nat.lt_of_lt_of_le hn2 hf3.next)
        have hf : Fr σ σ4 := (hf2.trans hf3).trans hf4
        cases hh : hasN l[i].1 (l.take i) with
        | true =>
          rw [hh] at hC
          simp only [L43_1, sA, reduceIte, Nat.reduceEqDiff, Int.reduceLT, Int.reduceLE, Int.reduceEq, Int.reduceNeg, reduceCtorEq, Nat.reduceAdd, sM, h0, h5, h6, h7, hlt, g1, g2.ld, ← e2, hg2, opCall, argsOf, hN, hW, opSlSl_s, Option.map_none, Option.map_some, s1, opMkFunc, hC] at hr
          exact ⟨_, _, hf, .inr ⟨by simp [attrOK, hn, hwl, hh], hr.symm, by simp only [sV, Nat.reduceEqDiff, reduceIte, Nat.reduceAdd]⟩⟩
        | false =>
          rw [hh] at hC
          simp only [L43_1, sA, reduceIte, Nat.reduceEqDiff, Int.reduceLT, Int.reduceLE, Int.reduceEq, Int.reduceNeg, reduceCtorEq, Nat.reduceAdd, sM, h0, h5, h6, h7, hlt, g1, g2.ld, ← e2, hg2, opCall, argsOf, hN, hW, opSlSl_s, Option.map_none, Option.map_some, s1, opMkFunc, hC, hw] at hr
          obtain ⟨e, σ5, hf5, h⟩ := attrs_loop v l hb hwf m (i + 1) _ σ4 r hr (by omega) (hv.fr hf) (by simp only [sV, Nat.reduceEqDiff, reduceIte, Nat.reduceAdd, h0]) (by simp only [sV, Nat.reduceEqDiff, reduceIte, Nat.reduceAdd, h5]) (by simp only [sV, Nat.reduceEqDiff, reduceIte, Nat.reduceAdd, h6]) (by simp only [sV, Nat.reduceEqDiff, reduceIte, Nat.reduceAdd])
          refine ⟨e, σ5, hf.trans hf5, ?_⟩
          simpa [attrOK, hn, hwl, hh] using h

theorem attrs_ok (v : AVal) (l : List AttrD) (σ : St) (hb : l.length < 9223372036854775808) (hwf : ∀ a ∈ l, SWF a.1 ∧ SWF a.2) (hv : AttrsI σ v l) :
    ∃ σ', Fr σ σ' ∧ Cw TS false 43 [v] σ = some (.bool (attrsS l), σ') := by
  have hl := SlI.len hv
  rw [Cw_of fn43 false _ σ rfl]
  simp only [c43, sA, reduceIte, Nat.reduceEqDiff, Int.reduceLT, Int.reduceLE, Int.reduceEq, Int.reduceNeg, reduceCtorEq, Nat.reduceAdd, hl]
  generalize hr : Ew TS false (.loop L43_1) _ σ = r
  obtain ⟨e, σ', hf, ⟨h1, rfl, h3⟩ | ⟨h1, rfl, h3⟩⟩ := attrs_loop v l hb hwf l.length 0 _ σ r hr (by omega) hv (by simp only [sV, Nat.reduceEqDiff, reduceIte, Nat.reduceAdd]) (by simp only [sV, Nat.reduceEqDiff, reduceIte, Nat.reduceAdd]) (by simp only [sV, Nat.reduceEqDiff, reduceIte, Nat.reduceAdd]) (by simp only [sV, Nat.reduceEqDiff, reduceIte, Nat.reduceAdd]; rfl)
  · refine ⟨σ', hf, ?_⟩
    have h1 : attrsOK [] l = true := by simpa using h1
    by_cases h16 : (l.length : Int) ≤ 16
    · have : attrsS l = true := by simp [attrsS, h1]; omega
      simp only [sA, reduceIte, Nat.reduceEqDiff, Int.reduceLT, Int.reduceLE, Int.reduceEq, Int.reduceNeg, reduceCtorEq, Nat.reduceAdd, h3, hl, h16, this]
    · have : attrsS l = false := by simp [attrsS, h1]; omega
      simp only [sA, reduceIte, Nat.reduceEqDiff, Int.reduceLT, Int.reduceLE, Int.reduceEq, Int.reduceNeg, reduceCtorEq, Nat.reduceAdd, h3, hl, h16, this]
  · refine ⟨σ', hf, ?_⟩
    have h1 : attrsOK [] l = false := by simpa using h1
    have : attrsS l = false := by simp [attrsS, h1]
    simp only [sA, reduceIte, Nat.reduceEqDiff, Int.reduceLT, Int.reduceLE, Int.reduceEq, Int.reduceNeg, reduceCtorEq, Nat.reduceAdd, h3, this]
end Go.Ab.Dirs
end
