/- tree: attributes. -/
import Derived.Test.YthbanbnmomcohaaGreatDoorP2
import Derived.Test.YthbanbnmomcohaaGreatDoorA8
set_option maxRecDepth 10000
noncomputable section
namespace Go.Ab.Dirs
open Go Go.Ab

theorem SlI.fr' {σ σ' : St} {s n : Nat} {v : AVal} {cs : List AVal} (h : SlI σ s v n cs) (hf : Fr σ σ') : SlI σ' s v n cs := h.fr hf

/-- The first ones of a slice. -/
theorem SlI.take {σ : St} {s n : Nat} {v : AVal} {cs : List AVal} (h : SlI σ s v n cs) {k : Nat} (hk : k ≤ n) (_hs : 0 < s) : ∃ v', slS s v none (some (.int .i64 (k : Int))) none = some v' ∧ SlI σ s v' k (cs.take (k * s)) := by
  have hl := h.cs_len
  have hks : k * s ≤ n * s := Nat.mul_le_mul_right s hk
  obtain ⟨h1, h2⟩ := h
  have hb : ∀ m : Nat, k ≤ m → boundsL m m none (some (.int .i64 (k : Int))) none = some (0, k) := by
    intro m hm
    simp only [boundsL, toNo, toN, Int.toNat_natCast]
    rw [if_pos ⟨by omega, by omega⟩]
  unfold lowV at h1
  split at h1
  · simp only [cellsIn] at h2; cases h2
    have : k = 0 := by omega
    subst this
    exact ⟨.nils, by simp only [slS, hb 0 (by omega)], trivial, by simp [cellsIn]⟩
  · rename_i b i m s'
    simp only [cellsIn] at h2
    split at h2
    · rename_i e; subst e
      split at h2
      · rename_i f e l hg
        split at h2
        · rename_i l' hs'
          cases h2
          obtain ⟨ha, hb'⟩ := sub_eq.1 hs'
          refine ⟨.slice b i k s, ?_, h1, ?_⟩
          · simp only [slS, hb n hk]; simp
          · simp only [cellsIn, hg, if_true]
            rw [sub_eq.2 ⟨by omega, rfl⟩]
            subst hb'
            simp only [List.take_take]
            rw [Nat.min_eq_left hks]
        · simp at h2
      · simp at h2
    · simp at h2
  · rename_i m l
    simp only [cellsIn] at h2
    split at h2
    · rename_i l' ht
      cases h2
      obtain ⟨ha, hb'⟩ := takeX_eq.1 ht
      by_cases h0 : k = 0
      · subst h0
        exact ⟨.rslice 0 [], by simp only [slS, hb n hk]; simp, trivial, by simp [cellsIn, takeX_zero]⟩
      · refine ⟨.rslice k l, ?_, trivial, ?_⟩
        · simp only [slS, hb n hk]
          rw [if_neg (by omega)]
          simp [dropX_zero]
        · simp only [cellsIn]
          rw [takeX_eq.2 ⟨by omega, rfl⟩]
          subst hb'
          simp only [List.take_take]
          rw [Nat.min_eq_left hks]
    · simp at h2
  · exact absurd h1 id

theorem take_flatMap {α β : Type} {f : α → List β} {s : Nat} (hf : ∀ a, (f a).length = s) : ∀ (l : List α) (i : Nat), (l.flatMap f).take (i * s) = (l.take i).flatMap f
  | [], i => by simp
  | a :: l, 0 => by simp
  | a :: l, i + 1 => by
    rw [List.flatMap_cons, List.take_succ_cons, List.flatMap_cons, ← take_flatMap hf l i, Nat.succ_mul]
    rw [show i * s + s = (f a).length + i * s by rw [hf]; omega]
    rw [List.take_length_add_append]

theorem attrs1_ok {bn bv an av : List Nat} {pb : Nat} {f : Bool} {t : TypeId} {σ : St} (hg : σ.get pb = some (.cells f t [.str an, .str av])) (hp : pb < σ.next) :
    ∃ σ', Fr σ σ' ∧ Cw TS false 67 [.agg [.str bn, .str bv], .ptr pb 0] σ = some (.bool (decide (bn = an)), σ') := by
  have hg' : ∀ o, (σ.new o).get pb = some (.cells f t [.str an, .str av]) := fun o => by rw [St.get_new_other _ _ (by omega)]; exact hg
  apply Exists.intro
  refine And.symm (And.intro ?_ ?_)
  · rw [Cw_of fn67 false _ σ rfl]
    simp only [c67, sC, reduceIte, Nat.reduceEqDiff, stepOp, opMov, opStrop, strop, sO, reduceCtorEq, sF, Nat.reduceAdd, sM, opBox, hg']
    rfl
  · exact Fr.new _ _

/-- Has one of some attributes this name? -/
def hasN (n : List Nat) (l : List AttrD) : Bool := l.any fun b => decide (b.1 = n)

theorem idxF_loop (v : AVal) (l : List AttrD) (an av : List Nat) (pb : Nat) (f : Bool) (t : TypeId) (hb : l.length < 9223372036854775808) : ∀ (m i : Nat) (env : Env) (σ : St) (r : Option (Out × Env × St)), Ew TS false (.loop L93_1) env σ = r → i + m = l.length → AttrsI σ v l →
    σ.get pb = some (.cells f t [.str an, .str av]) → pb < σ.next →
    V env 0 = v → V env 1 = .func 67 [] [.ptr pb 0] → V env 7 = .int .i64 l.length → V env 8 = .int .i64 i →
    ∃ e σ', Fr σ σ' ∧ ((hasN an (l.drop i) = false ∧ r = some (.exit 0, e, σ')) ∨ (hasN an (l.drop i) = true ∧ r = some (.ret, e, σ') ∧ ∃ j : Nat, V e 4 = .int .i64 (j : Int)))
  | 0, i, env, σ, r, hr, hi, hv, hg, hp, h0, h1, h7, h8 => by
    have hlt : ¬ ((i : Int) < (l.length : Int)) := by omega
    rw [Ew_loop] at hr
    simp only [L93_1, sC, reduceIte, stepOp, opArith, arith, sO, h7, h8, hlt] at hr
    refine ⟨_, _, Fr.refl _, .inl ⟨?_, hr.symm⟩⟩
    rw [List.drop_eq_nil_of_le (by omega)]; rfl
  | m + 1, i, env, σ, r, hr, hi, hv, hg, hp, h0, h1, h7, h8 => by
    have hlt : ((i : Int) < (l.length : Int)) := by omega
    have his : i < l.length := by omega
    obtain ⟨g1, g2⟩ := hv.get his (k := .i64)
    have hw : wrapI .i64 ((i : Int) + 1) = ((i + 1 : Nat) : Int) := by rw [wrap_i64 (by omega) (by omega)]; omega
    obtain ⟨σ1, hf1, hc⟩ := attrs1_ok (bn := l[i].1) (bv := l[i].2) hg hp
    have hd : hasN an (l.drop i) = (decide (l[i].1 = an) || hasN an (l.drop (i + 1))) := by
      rw [List.drop_eq_getElem_cons his]; rfl
    rw [hd]
    rw [Ew_loop] at hr
    by_cases hx : l[i].1 = an
    · have hx := eq_true hx
      simp only [L93_1, sC, reduceIte, Nat.reduceEqDiff, stepOp, opMov, opArith, arith, sO, reduceCtorEq, h0, h1, h7, h8, hlt, opIaSl_s, opLoad_s, g1, g2.ld, opCallV, argsOf, List.nil_append, List.cons_append, hc, hx] at hr
      exact ⟨_, _, hf1, .inr ⟨by simp [hx], hr.symm, i, by simp only [V_U, Nat.reduceEqDiff, reduceIte]⟩⟩
    · simp only [L93_1, sC, reduceIte, Nat.reduceEqDiff, stepOp, opMov, opArith, arith, sO, reduceCtorEq, h0, h1, h7, h8, hlt, opIaSl_s, opLoad_s, g1, g2.ld, opCallV, argsOf, List.nil_append, List.cons_append, hc, hx, hw] at hr
      obtain ⟨e, σ2, hf2, hh⟩ := idxF_loop v l an av pb f t hb m (i + 1) _ σ1 r hr (by omega) (hv.fr hf1) (by rw [hf1.get _ hp]; exact hg) (Nat.lt_of_lt_of_le hp hf1.next) (by simp only [V_U, Nat.reduceEqDiff, reduceIte, h0]) (by simp only [V_U, Nat.reduceEqDiff, reduceIte, h1]) (by simp only [V_U, Nat.reduceEqDiff, reduceIte, h7]) (by simp only [V_U, Nat.reduceEqDiff, reduceIte])
      refine ⟨e, σ2, hf1.trans hf2, ?_⟩
      simpa [hx] using hh

theorem contF_ok {v : AVal} {l : List AttrD} {an av : List Nat} {pb : Nat} {f : Bool} {t : TypeId} {σ : St} (hv : AttrsI σ v l) (hb : l.length < 9223372036854775808) (hg : σ.get pb = some (.cells f t [.str an, .str av])) (hp : pb < σ.next) :
    ∃ σ', Fr σ σ' ∧ Cw TS false 66 [v, .func 67 [] [.ptr pb 0]] σ = some (.bool (hasN an l), σ') := by
  have hl := SlI.len hv
  have h93 : ∃ σ', Fr σ σ' ∧ ((hasN an l = false ∧ Cw TS false 93 [v, .func 67 [] [.ptr pb 0]] σ = some (.int .i64 (-1), σ')) ∨ (hasN an l = true ∧ ∃ j : Nat, Cw TS false 93 [v, .func 67 [] [.ptr pb 0]] σ = some (.int .i64 (j : Int), σ'))) := by
    rw [Cw_of fn93 false _ σ rfl]
    simp only [c93, sC, reduceIte, Nat.reduceEqDiff, stepOp, opMov, sO, Int.reduceNeg, reduceCtorEq, sF, Nat.reduceAdd, hl]
    generalize hr : Ew TS false (.loop L93_1) _ σ = r
    obtain ⟨e, σ', hf, ⟨h1, rfl⟩ | ⟨h1, rfl, j, h3⟩⟩ := idxF_loop v l an av pb f t hb l.length 0 _ σ r hr (by omega) hv hg hp (by simp only [V_U, Nat.reduceEqDiff, reduceIte]) (by simp only [V_U, Nat.reduceEqDiff, reduceIte]) (by simp only [V_U, Nat.reduceEqDiff, reduceIte]) (by simp only [V_U, Nat.reduceEqDiff, reduceIte]; rfl)
    · exact ⟨σ', hf, .inl ⟨by simpa using h1, by simp only [sC, reduceIte, Int.reduceNeg, sF]⟩⟩
    · exact ⟨σ', hf, .inr ⟨by simpa using h1, j, by simp only [sF, h3]⟩⟩
  obtain ⟨σ', hf, ⟨h1, h2⟩ | ⟨h1, j, h2⟩⟩ := h93
  · refine ⟨σ', hf, ?_⟩
    rw [Cw_of fn66 false _ σ rfl]
    simp only [c66, sC, reduceIte, Nat.reduceEqDiff, stepOp, opMov, opArith, arith, sO, Int.reduceLE, Int.reduceNeg, reduceCtorEq, sF, Nat.reduceAdd, opCall, argsOf, h2, h1]
  · refine ⟨σ', hf, ?_⟩
    rw [Cw_of fn66 false _ σ rfl]
    simp only [c66, sC, reduceIte, Nat.reduceEqDiff, stepOp, opMov, opArith, arith, sO, reduceCtorEq, sF, Nat.reduceAdd, opCall, argsOf, h2, h1]
end Go.Ab.Dirs
end
