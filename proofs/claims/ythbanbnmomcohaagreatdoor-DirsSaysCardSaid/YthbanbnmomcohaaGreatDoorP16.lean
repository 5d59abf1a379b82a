/- tree.Right: whole. -/
import Derived.Test.YthbanbnmomcohaaGreatDoorP15
set_option maxRecDepth 10000
noncomputable section
namespace Go.Ab.Dirs
open Go Go.Ab

def mkS (σ : St) (e : TypeId) (s bytes : Nat) (z : List AVal) (len cap : AVal) : Option (AVal × St) := match len, cap with
  | .int _ l, .int _ c => if 0 ≤ l ∧ l ≤ c ∧ c * (bytes : Int) ≤ 1099511627776 ∧ c ≤ 1099511627776 then some (.slice σ.next 0 l.toNat s, σ.new (.cells true e (rep z c.toNat))) else none
  | _, _ => none
theorem opMkSlice_s {T : Tab} {q : Bool} {e : TypeId} {s bytes : Nat} {z : List AVal} {x y : Opd} {env : Env} {σ : St} : opMkSlice T q e s bytes z x y env σ = (if q then none else mkS σ e s bytes z (x.ev T env) (y.ev T env)) := by
  unfold opMkSlice mkS
  simp only [St.newK_eq]
  rfl
theorem mkS_nat {σ : St} {e : TypeId} {s bytes n : Nat} {z : List AVal} (h : n * bytes ≤ 1099511627776) (h2 : n ≤ 1099511627776) : mkS σ e s bytes z (.int .i64 (n : Int)) (.int .i64 (n : Int)) = some (.slice σ.next 0 n s, σ.new (.cells true e (rep z n))) := by
  unfold mkS
  simp only [Int.toNat_natCast]
  have : (n : Int) * (bytes : Int) ≤ 1099511627776 := by
    have := Int.ofNat_le.2 h
    simpa using this
  rw [if_pos ⟨by omega, by omega, this, by omega⟩]
theorem rep_0 : ∀ n : Nat, rep [.int .i64 0] n = (List.replicate n 0).map fun x : Nat => AVal.int .i64 (x : Int)
  | 0 => rfl
  | n + 1 => by rw [rep, rep_0 n]; rfl

def finS (t : List ND) (cnt : List Nat) : Nat → Nat → Bool
  | 0, _ => true
  | m + 1, i => decide (cnt.getD i 0 = (t.getD i dN).kids.length) && finS t cnt m (i + 1)

theorem fin_loop {t : List ND} {tv : AVal} (hN : t.length ≤ 16384) (bk : Nat) (cnt : List Nat) (hcl : cnt.length = t.length) : ∀ (m i : Nat) (e : Env) (σ : St) (r : Option (Out × Env × St)), i + m = t.length → TreeI σ tv t → OwnI σ bk cnt → Ew TS false (.loop L13_1) e σ = r →
    V e 0 = tv → V e 4 = .slice bk 0 t.length 1 → V e 117 = tv → V e 118 = .int .i64 (t.length : Int) → V e 119 = .int .i64 (i : Int) →
    ∃ e' σ', Fr σ σ' ∧ ((finS t cnt m i = false ∧ r = some (.ret, e', σ') ∧ V e' 2 = .int .i64 53) ∨ (finS t cnt m i = true ∧ r = some (.exit 4, e', σ')))
  | 0, i, e, σ, r, hi, ht, hc, hr, h0, h4, h117, h118, h119 => by
    have hlt : ¬ ((i : Int) < (t.length : Int)) := by omega
    rw [Ew_loop] at hr
    simp only [L13_1, sC, reduceIte, stepOp, opArith, arith, sO, h118, h119, hlt] at hr
    exact ⟨_, _, Fr.refl _, .inr ⟨rfl, hr.symm⟩⟩
  | m + 1, i, e, σ, r, hi, ht, hc, hr, h0, h4, h117, h118, h119 => by
    have hlt : ((i : Int) < (t.length : Int)) := by omega
    have hit : i < t.length := by omega
    have hw : wrapI .i64 ((i : Int) + 1) = ((i + 1 : Nat) : Int) := by rw [wrap_i64 (by omega) (by omega)]; omega
    obtain ⟨av, kv, x1, x2⟩ := ht.get hit
    have x1 := x1 .i64
    have o1 := x2.attrs.one
    have o2 := x2.kids.one
    have hcp := Copy.of (f := true) (t := 36) (zs := [.int .u8 0, .str [], .nils, .str [], .int .i64 0, .nils]) x2
    have hf2 : Fr σ ((σ.new (.cells true 36 [.int .u8 0, .str [], .nils, .str [], .int .i64 0, .nils])).put σ.next (.cells true 36 [.int .u8 (t[i].kind : Int), .str t[i].name, av, .str t[i].data, .int .i64 t[i].up, kv])) := (Fr.new _ _).put (Nat.le_refl _) _
    have x2l := x2.ld
    generalize e2 : (σ.new (.cells true 36 [.int .u8 0, .str [], .nils, .str [], .int .i64 0, .nils])).put σ.next (.cells true 36 [.int .u8 (t[i].kind : Int), .str t[i].name, av, .str t[i].data, .int .i64 t[i].up, kv]) = σ2 at hcp hf2
    obtain ⟨⟨f, ty, hg⟩, -, -, hk⟩ := hcp
    have hl := SlI.len hk
    have hic : i < cnt.length := by omega
    obtain ⟨k1, k2⟩ := (hc.fr hf2).ints.get (i := i) (by simpa using hic) (k := .i64)
    simp only [List.getElem_map, Int.ofNat_eq_natCast] at k2
    rw [← hcl] at h4
    rw [finS, getD_at hic, getD_at hit]
    rw [Ew_loop] at hr
    by_cases hx : (cnt[i] : Int) = (t[i].kids.length : Int)
    · have hx' := eq_true hx
      have hd : decide (cnt[i] = t[i].kids.length) = true := by simp; omega
      simp only [L13_1, B13_3, B13_1, B13_2, B13_4, sC, reduceIte, Nat.reduceEqDiff, stepOp, undefA, opMov, opArith, arith, sO, Nat.reduceAdd, sD, opAlloc, allOne, sM, h4, h117, h118, h119, hlt, x1, x2l, o1, o2, e2, hg, hl, k1, k2, hx', hw] at hr
      obtain ⟨e', σ', hf', hh⟩ := fin_loop hN bk cnt hcl m (i + 1) _ σ2 r (by omega) (ht.fr hf2) (hc.fr hf2) hr (by simp only [V_U, Nat.reduceEqDiff, reduceIte, h0]) (by simp only [V_U, Nat.reduceEqDiff, reduceIte, h4, hcl]) (by simp only [V_U, Nat.reduceEqDiff, reduceIte, h117]) (by simp only [V_U, Nat.reduceEqDiff, reduceIte, h118]) (by simp only [V_U, Nat.reduceEqDiff, reduceIte])
      refine ⟨e', σ', hf2.trans hf', ?_⟩
      rw [hd, Bool.true_and]; exact hh
    · have hd : decide (cnt[i] = t[i].kids.length) = false := by simp; omega
      simp only [L13_1, B13_3, B13_1, B13_2, B13_4, sC, reduceIte, Nat.reduceEqDiff, stepOp, undefA, opMov, opArith, arith, sO, Nat.reduceAdd, sD, opAlloc, allOne, sM, h4, h117, h118, h119, hlt, x1, x2l, o1, o2, e2, hg, hl, k1, k2, hx] at hr
      exact ⟨_, _, hf2, .inl ⟨by rw [hd, Bool.false_and], hr.symm, by simp only [V_U, Nat.reduceEqDiff, reduceIte]⟩⟩

/-- The beginning of a tree. -/
def headS (t : List ND) : Bool := decide (t.length ≠ 0) && (decide (t.length ≤ 16384) && (decide ((t.getD 0 dN).kind = 0) && decide ((t.getD 0 dN).up = -1)))
/-- Is a tree right? -/
def rightS (t : List ND) : Bool := headS t && match rightG t t.length 0 [0] (List.replicate t.length 0) with | none => false | some cnt => finS t cnt t.length 0

theorem right_15 {e : Env} {σ : St} {r : Option (Out × Env × St)} {t : List ND} {tv : AVal} (hr : Ew TS false B13_15 e σ = r) (ht : TreeI σ tv t) (h0 : V e 0 = tv) : ∃ e', r = some (.normal, e', σ) ∧ V e' 30 = .bool (!headS t) ∧ V e' 0 = tv := by
  have hl := ht.len
  by_cases h1 : (t.length : Int) = 0
  · have h1' := eq_true h1
    have hh : headS t = false := by unfold headS; simp only [Bool.and_eq_false_iff]; left; simp; exact List.eq_nil_of_length_eq_zero (by omega)
    simp only [B13_15, sC, reduceIte, Nat.reduceEqDiff, stepOp, undefA, opMov, opPick, opArith, arith, sO, Int.reduceNeg, h0, hl, h1'] at hr
    exact ⟨_, hr.symm, by simp only [V_U, Nat.reduceEqDiff, reduceIte, hh, Bool.not_false], by simp only [V_U, Nat.reduceEqDiff, reduceIte, h0]⟩
  · have hpos : 0 < t.length := by omega
    obtain ⟨av, kv, x1, x2⟩ := ht.get hpos
    have x1 := x1 .i64
    simp only [Int.natCast_zero] at x1
    have hg0 : t.getD 0 dN = t[0] := getD_at hpos dN
    by_cases h2 : (16384 : Int) < (t.length : Int)
    · have hh : headS t = false := by
        unfold headS
        have : decide (t.length ≤ 16384) = false := by simp; omega
        rw [this]; simp
      simp only [B13_15, sC, reduceIte, Nat.reduceEqDiff, stepOp, undefA, opMov, opPick, opArith, arith, sO, Int.reduceNeg, reduceCtorEq, h0, hl, h1, h2] at hr
      exact ⟨_, hr.symm, by simp only [V_U, Nat.reduceEqDiff, reduceIte, hh, Bool.not_false], by simp only [V_U, Nat.reduceEqDiff, reduceIte, h0]⟩
    · have d1 : decide (t.length ≠ 0) = true := by simp; intro h; subst h; simp at hpos
      have d2 : decide (t.length ≤ 16384) = true := by simp; omega
      by_cases h3 : (t[0].kind : Int) = 0
      · have h3' := eq_true h3
        have d3 : decide (t[0].kind = 0) = true := by simp; omega
        by_cases h4 : t[0].up = -1
        · have h4' := eq_true h4
          have hh : headS t = true := by unfold headS; rw [hg0, d1, d2, d3, h4]; rfl
          simp only [B13_15, sC, reduceIte, Nat.reduceEqDiff, stepOp, opMov, opPick, opArith, arith, sO, Int.reduceNeg, reduceCtorEq, opIaSl_s, opFieldAddr_s, opLoad_s, h0, hl, h1, h2, x1, x2.f0, x2.l0, x2.f4, x2.l4, h3', h4'] at hr
          exact ⟨_, hr.symm, by simp only [V_U, Nat.reduceEqDiff, reduceIte, hh, Bool.not_true], by simp only [V_U, Nat.reduceEqDiff, reduceIte, h0]⟩
        · have hh : headS t = false := by unfold headS; rw [hg0, d1, d2, d3, decide_eq_false h4]; rfl
          simp only [B13_15, sC, reduceIte, Nat.reduceEqDiff, stepOp, opMov, opPick, opArith, arith, sO, Int.reduceNeg, reduceCtorEq, opIaSl_s, opFieldAddr_s, opLoad_s, h0, hl, h1, h2, x1, x2.f0, x2.l0, x2.f4, x2.l4, h3', h4] at hr
          exact ⟨_, hr.symm, by simp only [V_U, Nat.reduceEqDiff, reduceIte, hh, Bool.not_false], by simp only [V_U, Nat.reduceEqDiff, reduceIte, h0]⟩
      · have d3 : decide (t[0].kind = 0) = false := by simp; omega
        have hh : headS t = false := by unfold headS; rw [hg0, d1, d2, d3]; rfl
        simp only [B13_15, sC, reduceIte, Nat.reduceEqDiff, stepOp, undefA, opMov, opPick, opArith, arith, sO, Int.reduceNeg, reduceCtorEq, opIaSl_s, opFieldAddr_s, opLoad_s, h0, hl, h1, h2, x1, x2.f0, x2.l0, h3] at hr
        exact ⟨_, hr.symm, by simp only [V_U, Nat.reduceEqDiff, reduceIte, hh, Bool.not_false], by simp only [V_U, Nat.reduceEqDiff, reduceIte, h0]⟩

theorem Right_ok {σ : St} {t : List ND} {tv : AVal} (ht : TreeI σ tv t) (hwf : ∀ n ∈ t, NWF n) : ∃ σ', Fr σ σ' ∧ Cw TS false 13 [tv] σ = some (.int .i64 (if rightS t then 0 else 53), σ') := by
  rw [Cw_of fn13 false _ σ rfl]
  simp only [c13, sC, stepOp, opMov, sF, Nat.reduceAdd]
  generalize hr15 : Ew TS false B13_15 _ _ = r15
  obtain ⟨e1, rfl, h30, h0⟩ := right_15 hr15 ht (by simp only [V_U, Nat.reduceEqDiff, reduceIte])
  cases hh : headS t with
  | false =>
    rw [hh] at h30
    have hrs : rightS t = false := by unfold rightS; rw [hh]; rfl
    simp only [sC, reduceIte, sO, sF, h30, hrs, Bool.false_eq_true]
    exact ⟨_, Fr.refl _, rfl⟩
  | true =>
    rw [hh] at h30
    have hpos : 0 < t.length := by
      unfold headS at hh
      simp only [Bool.and_eq_true, decide_eq_true_eq] at hh
      omega
    have hN : t.length ≤ 16384 := by
      unfold headS at hh
      simp only [Bool.and_eq_true, decide_eq_true_eq] at hh
      omega
    have hl2 := (ht.fr (Fr.new σ (.cells true 3 [.int .i64 0]))).len
    have hmk := mkS_nat (σ := σ.new (.cells true 3 [.int .i64 0])) (e := 3) (s := 1) (bytes := 8) (n := t.length) (z := [.int .i64 0]) (by omega) (by omega)
    have hl3 := ((ht.fr (Fr.new σ (.cells true 3 [.int .i64 0]))).fr (Fr.new _ (.cells true 3 (rep [.int .i64 0] t.length)))).len
    simp only [sC, reduceIte, Nat.reduceEqDiff, stepOp, opMov, sO, reduceCtorEq, h30, h0, B13_16, B13_17, B13_18, opBuildSlice_s, bsS, fillL_int1, List.map_cons, List.map_nil, Bool.false_eq_true, opMkSlice_s, hl2, hmk]
    have hfs : Fr σ ((σ.new (.cells true 3 [.int .i64 0])).new (.cells true 3 (rep [.int .i64 0] t.length))) := (Fr.new _ _).trans (Fr.new _ _)
    have hp : OwnI ((σ.new (.cells true 3 [.int .i64 0])).new (.cells true 3 (rep [.int .i64 0] t.length))) σ.next [0] := by
      have : OwnI (σ.new (.cells true 3 [.int .i64 0])) σ.next [0] := ⟨Nat.lt_succ_self _, true, _, St.get_new_same _ _, Nat.le_refl _, rfl⟩
      exact this.fr (Fr.new _ _)
    have hk : OwnI ((σ.new (.cells true 3 [.int .i64 0])).new (.cells true 3 (rep [.int .i64 0] t.length))) (σ.new (.cells true 3 [.int .i64 0])).next (List.replicate t.length 0) := by
      refine ⟨Nat.lt_succ_self _, true, _, St.get_new_same _ _, ?_, ?_⟩
      · rw [rep_0]; simp
      · rw [rep_0, List.take_of_length_le (by simp)]
    generalize hr : Ew TS false (.loop L13_3) _ _ = r
    have hinv : InvR t 0 [0] (List.replicate t.length 0) := by
      refine ⟨by simp, by simpa using hpos, by simp, by simp, ?_⟩
      intro u hu
      have : (List.replicate t.length 0).getD u 0 = 0 := by rw [getD_at (by simpa using hu)]; simp
      rw [this]
      exact ⟨Nat.zero_le _, fun j hj => absurd hj (Nat.not_lt_zero _)⟩
    obtain ⟨e2, σ2, hf2, ⟨g1, rfl, g3⟩ | ⟨cnt, g1, rfl, g3, g4, g5, g6⟩⟩ := right_loop ht hwf hN (σ.new (.cells true 3 [.int .i64 0])).next (Nat.le_succ _) t.length 0 [0] (List.replicate t.length 0) σ.next _ _ r (by omega) hinv hfs (Nat.le_refl _) (by rw [St.new_next]; omega) hp hk hr (by simp only [V_U, Nat.reduceEqDiff, reduceIte, h0]) (by simp only [V_U, Nat.reduceEqDiff, reduceIte]; rfl) (by simp only [V_U, Nat.reduceEqDiff, reduceIte]) (by simp only [V_U, Nat.reduceEqDiff, reduceIte]) (by simp only [V_U, Nat.reduceEqDiff, reduceIte]) (by simp only [V_U, Nat.reduceEqDiff, reduceIte]; rfl)
    · have hrs : rightS t = false := by unfold rightS; rw [hh, g1]; rfl
      simp only [reduceIte, sF, g3, hrs, Bool.false_eq_true]
      exact ⟨_, hf2, rfl⟩
    · have hl4 := (ht.fr hf2).len
      simp only [sC, reduceIte, stepOp, opMov, sO, B13_19, g3, hl4]
      generalize hr : Ew TS false (.loop L13_1) _ _ = r
      obtain ⟨e3, σ3, hf3, ⟨k1, rfl, k3⟩ | ⟨k1, rfl⟩⟩ := fin_loop hN _ cnt g6 t.length 0 _ σ2 r (by omega) (ht.fr hf2) g5 hr (by simp only [V_U, Nat.reduceEqDiff, reduceIte, g3]) (by simp only [V_U, Nat.reduceEqDiff, reduceIte, g4]) (by simp only [V_U, Nat.reduceEqDiff, reduceIte]) (by simp only [V_U, Nat.reduceEqDiff, reduceIte]) (by simp only [V_U, Nat.reduceEqDiff, reduceIte]; rfl)
      · have hrs : rightS t = false := by unfold rightS; rw [hh, g1]; exact k1
        simp only [reduceIte, sF, k3, hrs, Bool.false_eq_true]
        exact ⟨_, hf2.trans hf3, rfl⟩
      · have hrs : rightS t = true := by unfold rightS; rw [hh, g1]; exact k1
        simp only [sC, reduceIte, sF, hrs]
        exact ⟨_, hf2.trans hf3, rfl⟩
end Go.Ab.Dirs
end
