/- DirsSays, walked: the children. -/
import Derived.Test.YthbanbnmomcohaaGreatDoorP28
set_option maxRecDepth 10000
noncomputable section
namespace Go.Ab.Dirs
open Go Go.Ab

theorem putX_some : ∀ (i : Nat) (l vs : List AVal), i + vs.length ≤ l.length → putX i l vs = some (l.take i ++ (vs ++ l.drop (i + vs.length)))
  | 0, l, [], _ => by cases l <;> simp [putX]
  | 0, [], v :: vs, h => by simp at h
  | 0, x :: l, v :: vs, h => by
    have := putX_some 0 l vs (by simp at h ⊢; omega)
    unfold putX; rw [this]; simp
  | i + 1, [], [], h => by simp at h
  | i + 1, x :: l, [], h => by unfold putX; simp
  | i + 1, [], v :: vs, h => by simp at h
  | i + 1, x :: l, v :: vs, h => by
    have := putX_some i l (v :: vs) (by simp at h ⊢; omega)
    unfold putX; rw [this, show i + 1 + (v :: vs).length = (i + (v :: vs).length) + 1 by omega, List.drop_succ_cons]; rfl

theorem NodesC.set {σ : St} : ∀ {t : List ND} {cs : List AVal}, NodesC σ t cs → ∀ {i : Nat} (_ : i < t.length) {n : ND} {av kv : AVal} {xs : List AVal}, NodeC σ n av kv xs → NodesC σ (t.set i n) (cs.take (i * 6) ++ (xs ++ cs.drop (i * 6 + 6)))
  | _, _, .nil, i, hi, _, _, _, _, _ => by simp at hi
  | _, _, .cons (n := m) (t := t) (cs := cs) (ds := ds) h ht, 0, _, n, av, kv, xs, hn => by
    have hl : cs.length = 6 := by rw [h.1]; rfl
    have e : (cs ++ ds).drop 6 = ds := by rw [← hl]; exact List.drop_left
    simp only [Nat.zero_mul, List.take_zero, List.nil_append, Nat.zero_add, List.set_cons_zero]
    rw [e]
    exact .cons hn ht
  | _, _, .cons (n := m) (t := t) (cs := cs) (ds := ds) h ht, i + 1, hi, n, av, kv, xs, hn => by
    have hl : cs.length = 6 := by rw [h.1]; rfl
    have ih := NodesC.set ht (i := i) (by simpa using hi) hn
    have e1 : (cs ++ ds).take ((i + 1) * 6) = cs ++ ds.take (i * 6) := by
      rw [Nat.succ_mul, show i * 6 + 6 = cs.length + i * 6 by omega]
      exact List.take_length_add_append _
    have e2 : (cs ++ ds).drop ((i + 1) * 6 + 6) = ds.drop (i * 6 + 6) := by
      rw [Nat.succ_mul, show i * 6 + 6 + 6 = cs.length + (i * 6 + 6) by omega]
      exact List.drop_length_add_append _
    rw [e1, e2, List.set_cons_succ, List.append_assoc]
    exact .cons h ih
theorem NodesC.one {σ : St} {t : List ND} {cs : List AVal} (h : NodesC σ t cs) : allOne cs = true := by
  have app : ∀ a b : List AVal, allOne a = true → allOne b = true → allOne (a ++ b) = true := by
    intro a b
    induction a with
    | nil => intro _ h; exact h
    | cons x a ih =>
      intro h1 h2
      simp only [allOne, Bool.and_eq_true] at h1
      simp only [List.cons_append, allOne, Bool.and_eq_true]
      exact ⟨h1.1, ih h1.2 h2⟩
  induction h with
  | nil => rfl
  | cons hc _ ih =>
    refine app _ _ ?_ ih
    rw [hc.1]
    have o1 := hc.2.1.one
    have o2 := hc.2.2.one
    simp only [allOne, o1, o2, one_int, one_str, Bool.and_true]

theorem ap_tree {σ : St} {t : List ND} {tv : AVal} {cs : List AVal} (h : SlI σ 6 tv t.length cs) (hn : NodesC σ t cs) (hp : 0 < t.length) (hb : t.length ≤ 16384) :
    apS σ 36 6 96 .nils tv = some (.slice σ.next 0 t.length 6, σ.new (.cells false 36 cs)) := by
  obtain ⟨m, hm⟩ : ∃ m, t.length = m + 1 := ⟨t.length - 1, by omega⟩
  have h2 := h.2
  rw [hm] at h2
  unfold apS
  rw [h2]
  have h1 := NodesC.one hn
  simp only [h1]
  rw [if_pos ⟨by omega, trivial⟩, hm]

section
variable {σ : St} {t' : List ND} {uv : AVal}

set_option maxHeartbeats 2000000 in
theorem says_in (hwf : ∀ n ∈ t', NWF n) (hR : rightS t' = true) {i : Nat} (hi0 : 0 < i) (hi : i < t'.length) (bl : Nat) : ∀ (m k : Nat) (σ : St) (e : Env) (r : Option (Out × Env × St)), k + m = t'[i].kids.length → TreeI σ uv t' → OwnB σ bl (allS t') → (allS t').length = t'.length → Ew TS false (.loop L4_1) e σ = r →
    V e 5 = .int .i64 (i : Int) → V e 8 = uv → V e 10 = .slice bl 0 t'.length 1 → V e 12 = .int .i64 (k : Int) →
    ∃ e' σ', Fr σ σ' ∧ r = some (.exit 2, e', σ') ∧ V e' 0 = V e 0 ∧ V e' 5 = V e 5 ∧ V e' 39 = V e 39 ∧ V e' 40 = V e 40 ∧ V e' 41 = V e 41
  | 0, k, σ, e, r, hk, ht, hB, hBl, hr, h5, h8, h10, h12 => by
    obtain ⟨av, kv, x1, x2⟩ := ht.get hi
    have x1 := x1 .i64
    have hl := SlI.len x2.kids
    have hlt : ¬ ((k : Int) < (t'[i].kids.length : Int)) := by omega
    rw [Ew_loop] at hr
    simp only [L4_1, B4_1, sC, reduceIte, Nat.reduceEqDiff, stepOp, opMov, opArith, arith, sO, opIaSl_s, opFieldAddr_s, opLoad_s, h5, h8, h12, x1, x2.f5, x2.l5, hl, hlt] at hr
    exact ⟨_, _, Fr.refl _, hr.symm, by simp only [V_U, Nat.reduceEqDiff, reduceIte], by simp only [V_U, Nat.reduceEqDiff, reduceIte, h5], by simp only [V_U, Nat.reduceEqDiff, reduceIte], by simp only [V_U, Nat.reduceEqDiff, reduceIte], by simp only [V_U, Nat.reduceEqDiff, reduceIte]⟩
  | m + 1, k, σ, e, r, hk, ht, hB, hBl, hr, h5, h8, h10, h12 => by
    obtain ⟨av, kv, x1, x2⟩ := ht.get hi
    have x1 := x1 .i64
    have hl := SlI.len x2.kids
    have hlt : ((k : Int) < (t'[i].kids.length : Int)) := by omega
    have hkl : k < t'[i].kids.length := by omega
    have hn := (hwf t'[i] (List.getElem_mem _)).klen
    have hw : wrapI .i64 ((k : Int) + 1) = ((k + 1 : Nat) : Int) := by rw [wrap_i64 (by omega) (by omega)]; omega
    obtain ⟨j, hz, hij, hjt⟩ := (right_facts hR).1 i hi t'[i].kids[k] (by rw [getD_at hi]; exact List.getElem_mem _)
    have hup := right_kidup hR hi (j := j) (by rw [← hz]; exact List.getElem_mem _)
    obtain ⟨g1, g2⟩ := x2.kids.get hkl (k := .i64)
    rw [hz] at g2
    obtain ⟨av2, kv2, y1, y2⟩ := ht.get hjt
    have y1 := y1 .i64
    have hjb : j < (allS t').length := by omega
    have hib : i < (allS t').length := by omega
    obtain ⟨u1, u2⟩ := hB.get hjb (k := .i64)
    obtain ⟨w1, w2⟩ := hB.get hib (k := .i64)
    rw [hBl] at u1 u2 w1 w2
    have hway := allS_at hR (j := j) (by omega) hjt
    rw [hup, Int.toNat_natCast, getD_at hjb, getD_at hib, getD_at hjt] at hway
    have hpre : ∀ σ', Fr σ σ' → ∀ e2, Ew TS false (.loop L4_1) e2 σ' = r → V e2 5 = .int .i64 (i : Int) → V e2 8 = uv → V e2 10 = .slice bl 0 t'.length 1 → V e2 12 = .int .i64 ((k + 1 : Nat) : Int) → V e2 0 = V e 0 → V e2 39 = V e 39 → V e2 40 = V e 40 → V e2 41 = V e 41 →
        ∃ e' σ'', Fr σ σ'' ∧ r = some (.exit 2, e', σ'') ∧ V e' 0 = V e 0 ∧ V e' 5 = V e 5 ∧ V e' 39 = V e 39 ∧ V e' 40 = V e 40 ∧ V e' 41 = V e 41 := by
      intro σ' hf e2 hr2 c5 c8 c10 c12 c0 c39 c40 c41
      obtain ⟨e', σ'', hf', a, b0, b5, b39, b40, b41⟩ := says_in hwf hR hi0 hi bl m (k + 1) σ' e2 r (by omega) (ht.fr hf) (hB.fr hf) hBl hr2 c5 c8 c10 c12
      exact ⟨e', σ'', hf.trans hf', a, by rw [b0, c0], by rw [b5, c5, h5], by rw [b39, c39], by rw [b40, c40], by rw [b41, c41]⟩
    rw [Ew_loop] at hr
    rcases node_facts hR (by omega) hjt with ⟨a, -, -⟩ | ⟨a, -⟩
    · have k2 := eq_true (show (t'[j].kind : Int) = 2 by omega)
      have k21 : ¬ (2 : Int) = 1 := by decide
      have k1 : ¬ (t'[j].kind : Int) = 1 := by omega
      rw [if_neg (by omega)] at hway
      have hway' := eq_true (show ((allS t')[j] : Int) = ((allS t')[i] : Int) by omega)
      simp only [L4_1, B4_1, B4_5, B4_2, B4_3, B4_4, B4_6, sC, reduceIte, Nat.reduceEqDiff, stepOp, undefA, opMov, opPick, opArith, arith, sO, Nat.reduceAdd, sD, opIaSl_s, opFieldAddr_s, opLoad_s, h5, h8, h10, h12, x1, x2.f5, x2.l5, hl, hlt, g1, g2, y1, y2.f0, y2.l0, k1, k2, u1, u2, w1, w2, hway', hw] at hr
      exact hpre σ (Fr.refl _) _ hr (by simp only [V_U, Nat.reduceEqDiff, reduceIte, h5]) (by simp only [V_U, Nat.reduceEqDiff, reduceIte, h8]) (by simp only [V_U, Nat.reduceEqDiff, reduceIte, h10]) (by simp only [V_U, Nat.reduceEqDiff, reduceIte]) (by simp only [V_U, Nat.reduceEqDiff, reduceIte]) (by simp only [V_U, Nat.reduceEqDiff, reduceIte]) (by simp only [V_U, Nat.reduceEqDiff, reduceIte]) (by simp only [V_U, Nat.reduceEqDiff, reduceIte])
    · have k1 := eq_true (show (t'[j].kind : Int) = 1 by omega)
      have k2 : ¬ (t'[j].kind : Int) = 2 := by omega
      by_cases c1 : t'[j].name = [98, 100, 105]
      · have c1' := eq_true c1
        simp only [L4_1, B4_1, B4_5, B4_2, B4_3, B4_4, B4_6, sC, reduceIte, Nat.reduceEqDiff, stepOp, undefA, opMov, opPick, opArith, arith, opStrop, strop, sO, Nat.reduceAdd, sD, opIaSl_s, opFieldAddr_s, opLoad_s, h5, h8, h12, x1, x2.f5, x2.l5, hl, hlt, g1, g2, y1, y2.f0, y2.l0, y2.f1, y2.l1, k1, k2, c1', hw] at hr
        exact hpre σ (Fr.refl _) _ hr (by simp only [V_U, Nat.reduceEqDiff, reduceIte, h5]) (by simp only [V_U, Nat.reduceEqDiff, reduceIte, h8]) (by simp only [V_U, Nat.reduceEqDiff, reduceIte, h10]) (by simp only [V_U, Nat.reduceEqDiff, reduceIte]) (by simp only [V_U, Nat.reduceEqDiff, reduceIte]) (by simp only [V_U, Nat.reduceEqDiff, reduceIte]) (by simp only [V_U, Nat.reduceEqDiff, reduceIte]) (by simp only [V_U, Nat.reduceEqDiff, reduceIte])
      · obtain ⟨σ1, hf1, hst⟩ := State_ok ht hwf (j : Int)
        by_cases c2 : (StateS t' (j : Int) : Int) = 0
        · have c2' := eq_true c2
          have he : elemS t' (j : Int) = true := by
            unfold elemS
            rw [Int.toNat_natCast, getD_at hjt, hR, decide_eq_true (show (0 : Int) < (j : Int) by omega), decide_eq_true (show (j : Int) < (t'.length : Int) by omega), decide_eq_true a]
            rfl
          have hs0 : stateS t'[j].attrs = 0 := by
            have : StateS t' (j : Int) = stateS t'[j].attrs := by unfold StateS; rw [he, if_pos rfl, Int.toNat_natCast, getD_at hjt]
            omega
          have hsd : sheetD t' j = none := by
            unfold sheetD
            rw [getD_at hjt, if_neg (by omega), if_neg (by omega), if_neg (fun h => h.elim (by omega) c1)]
          rw [if_pos a, hsd] at hway
          have hway' := eq_true (show ((allS t')[j] : Int) = ((allS t')[i] : Int) by simp only at hway; omega)
          obtain ⟨u1', u2'⟩ := (hB.fr hf1).get hjb (k := .i64)
          obtain ⟨w1', w2'⟩ := (hB.fr hf1).get hib (k := .i64)
          rw [hBl] at u1' u2' w1' w2'
          simp only [L4_1, B4_1, B4_5, B4_2, B4_3, B4_4, B4_6, sC, reduceIte, Nat.reduceEqDiff, stepOp, undefA, opMov, opPick, opArith, arith, opStrop, strop, sO, Nat.reduceAdd, sD, opIaSl_s, opFieldAddr_s, opLoad_s, h5, h8, h10, h12, x1, x2.f5, x2.l5, hl, hlt, g1, g2, y1, y2.f0, y2.l0, y2.f1, y2.l1, k1, k2, c1, opCall, argsOf, hst, c2', u1', u2', w1', w2', hway', hw] at hr
          exact hpre σ1 hf1 _ hr (by simp only [V_U, Nat.reduceEqDiff, reduceIte, h5]) (by simp only [V_U, Nat.reduceEqDiff, reduceIte, h8]) (by simp only [V_U, Nat.reduceEqDiff, reduceIte, h10]) (by simp only [V_U, Nat.reduceEqDiff, reduceIte]) (by simp only [V_U, Nat.reduceEqDiff, reduceIte]) (by simp only [V_U, Nat.reduceEqDiff, reduceIte]) (by simp only [V_U, Nat.reduceEqDiff, reduceIte]) (by simp only [V_U, Nat.reduceEqDiff, reduceIte])
        · simp only [L4_1, B4_1, B4_5, B4_2, B4_3, B4_4, B4_6, sC, reduceIte, Nat.reduceEqDiff, stepOp, undefA, opMov, opPick, opArith, arith, opStrop, strop, sO, Nat.reduceAdd, sD, opIaSl_s, opFieldAddr_s, opLoad_s, h5, h8, h12, x1, x2.f5, x2.l5, hl, hlt, g1, g2, y1, y2.f0, y2.l0, y2.f1, y2.l1, k1, k2, c1, opCall, argsOf, hst, c2, hw] at hr
          exact hpre σ1 hf1 _ hr (by simp only [V_U, Nat.reduceEqDiff, reduceIte, h5]) (by simp only [V_U, Nat.reduceEqDiff, reduceIte, h8]) (by simp only [V_U, Nat.reduceEqDiff, reduceIte, h10]) (by simp only [V_U, Nat.reduceEqDiff, reduceIte]) (by simp only [V_U, Nat.reduceEqDiff, reduceIte]) (by simp only [V_U, Nat.reduceEqDiff, reduceIte]) (by simp only [V_U, Nat.reduceEqDiff, reduceIte]) (by simp only [V_U, Nat.reduceEqDiff, reduceIte])
end
end Go.Ab.Dirs
end
