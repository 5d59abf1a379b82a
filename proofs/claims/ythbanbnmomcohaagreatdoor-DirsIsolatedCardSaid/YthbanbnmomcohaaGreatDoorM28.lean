/- selvedgeref05.shaped. -/
import Derived.Test.YthbanbnmomcohaaGreatDoorM27
set_option linter.all false
set_option linter.unusedSimpArgs false
set_option maxRecDepth 100000
noncomputable section
namespace Go.Ab.Dirs
open Go Go.Ab

/-! Own rows of numbers. -/
def stI (σ : St) (b i w : Nat) : St := (stS σ 1 (.ptr b i) (.int .i64 (w : Int))).getD σ
theorem ixS_sl {s b j n : Nat} {k : IntKind} {z : Int} (h0 : 0 ≤ z) (hz : z < (n : Int)) : ixS s (.slice b j n s) (.int k z) = some (.ptr b (j + z.toNat * s)) := by
  simp only [ixS]; rw [if_pos ⟨trivial, h0, hz⟩]
section
variable {σ σ0 : St} {b : Nat} {l : List Nat} {i w : Nat}
theorem OwnI.ld (h : OwnI σ b l) (hi : i < l.length) : ldA σ none (.ptr b i) = some (.int .i64 ((l.getD i 0 : Nat) : Int)) := by
  obtain ⟨_, f, cs, hg, hl, ht⟩ := h
  have h1 : cs[i]? = some (.int .i64 ((l.getD i 0 : Nat) : Int)) := by
    have h2 := congrArg (fun x => x[i]?) ht
    simp only [List.getElem?_take, hi, if_true, List.getElem?_map] at h2
    rw [h2, List.getElem?_eq_getElem hi, getD_lt hi]; rfl
  obtain ⟨h3, h4⟩ := List.getElem?_eq_some_iff.1 h1
  rw [ldA_ptr, hg]
  simp only
  rw [dropX_get h3, h4]; rfl
theorem OwnI.stE (h : OwnI σ b l) (hi : i < l.length) : ∃ f cs, σ.get b = some (.cells f 3 cs) ∧ i < cs.length ∧ stS σ 1 (.ptr b i) (.int .i64 (w : Int)) = some (σ.put b (.cells f 3 (cs.set i (.int .i64 (w : Int))))) := by
  obtain ⟨_, f, cs, hg, hl, ht⟩ := h
  refine ⟨f, cs, hg, by omega, ?_⟩
  rw [stS_ptr, hg]
  simp only [cells_int, lenL_eq, List.length_cons, List.length_nil, Nat.zero_add, allOne, one_int, Bool.and_true, and_self, if_true, putX_set cs i _ (by omega : i < cs.length)]
theorem OwnI.st (h : OwnI σ b l) (hi : i < l.length) : stS σ 1 (.ptr b i) (.int .i64 (w : Int)) = some (stI σ b i w) := by
  obtain ⟨f, cs, _, _, h1⟩ := h.stE hi (w := w)
  unfold stI; rw [h1]; rfl
theorem OwnI.stI (h : OwnI σ b l) (hi : i < l.length) : OwnI (stI σ b i w) b (l.set i w) := by
  obtain ⟨f, cs, hg, hl, h1⟩ := h.stE hi (w := w)
  obtain ⟨hlt, f', cs', hg', hl', ht'⟩ := h
  rw [hg] at hg'; cases hg'
  unfold Dirs.stI; rw [h1]
  refine ⟨hlt, f, _, St.get_put_same _ _ _, by simpa using hl', ?_⟩
  rw [List.length_set, List.take_set, ht', List.map_set]
theorem OwnI.frI (h : OwnI σ b l) (hi : i < l.length) (hf : Fr σ0 σ) (hb : σ0.next ≤ b) : Fr σ0 (Dirs.stI σ b i w) := by
  obtain ⟨f, cs, hg, hl, h1⟩ := h.stE hi (w := w)
  unfold Dirs.stI; rw [h1]; exact hf.put hb _
end

/-! What the code looks at. -/
def walkR (t : List ND) (u : Nat) : Nat → Nat → Nat
  | 0, k => k
  | f + 1, k => if k ≠ u ∧ 0 < k then walkR t u f (t.getD k nd0).up.toNat else k
structure OkU (t : List ND) (i : Nat) : Prop where
  up : ∃ u : Nat, (t.getD i nd0).up = (u : Int) ∧ u < i ∧ upBad (t.getD u nd0) = false ∧ walkR t u i (i - 1) = u
def cntAt (t : List ND) : Nat → List Nat
  | 0 => List.replicate t.length 0
  | i + 1 => if i = 0 then cntAt t i else (cntAt t i).set (t.getD i nd0).up.toNat ((cntAt t i).getD (t.getD i nd0).up.toNat 0 + 1)
theorem cntAt_len (t : List ND) : ∀ i, (cntAt t i).length = t.length
  | 0 => by simp [cntAt]
  | i + 1 => by unfold cntAt; split <;> simp [cntAt_len t i]
theorem cntAt_le (t : List ND) : ∀ i u, (cntAt t i).getD u 0 ≤ i
  | 0, u => by
    simp only [cntAt, List.getD_eq_getElem?_getD]
    by_cases h : u < t.length
    · simp [h]
    · simp [List.getElem?_eq_none, h]
  | i + 1, u => by
    unfold cntAt
    split
    · have := cntAt_le t i u; omega
    · by_cases h : u = (t.getD i nd0).up.toNat
      · subst h
        by_cases h2 : (t.getD i nd0).up.toNat < t.length
        · rw [List.getD_eq_getElem?_getD, List.getElem?_set_self (by rw [cntAt_len]; exact h2)]
          have := cntAt_le t i (t.getD i nd0).up.toNat
          simp only [Option.getD_some]; omega
        · rw [List.getD_eq_getElem?_getD, List.getElem?_eq_none (by rw [List.length_set, cntAt_len]; omega)]; simp
      · rw [List.getD_eq_getElem?_getD, List.getElem?_set_ne (Ne.symm h), ← List.getD_eq_getElem?_getD]
        have := cntAt_le t i u; omega
structure KidOK (t : List ND) (i : Nat) : Prop where
  lt : (cntAt t i).getD (t.getD i nd0).up.toNat 0 < (t.getD (t.getD i nd0).up.toNat nd0).kids.length
  at' : (t.getD (t.getD i nd0).up.toNat nd0).kids.getD ((cntAt t i).getD (t.getD i nd0).up.toNat 0) 0 = (i : Int)
structure ShapedP (t : List ND) : Prop where
  head : headS t = true
  ups : ∀ j, 0 < j → j < t.length → OkU t j
  kids : ∀ j, 0 < j → j < t.length → KidOK t j
  all : ∀ j, j < t.length → (cntAt t t.length).getD j 0 = (t.getD j nd0).kids.length

theorem headS_eq (t : List ND) : headS t = !(decide ((t.length : Int) = 0) || decide ((16384 : Int) < t.length) || !decide (((t.getD 0 nd0).kind : Int) = 0) || !decide ((t.getD 0 nd0).up = -1)) := by
  unfold headS; rw [show dN = nd0 from rfl, Bool.eq_iff_iff]; simp only [Bool.and_eq_true, Bool.not_eq_true', Bool.or_eq_false_iff, decide_eq_true_eq, decide_eq_false_iff_not, Bool.not_eq_false']; omega
theorem upBad_eq (n : ND) : upBad n = (decide ((n.kind : Int) = 2) || decide ((n.kind : Int) = 1) && decide ((7 : Int) ≤ kindS n.name)) := by
  unfold upBad; rw [Bool.eq_iff_iff]; simp only [Bool.and_eq_true, Bool.or_eq_true, decide_eq_true_eq]; omega

section
variable {σ s0 : St} {t : List ND} {tv : AVal} {e0 : Env} {i : Nat}
set_option maxHeartbeats 16000000 in
theorem shaped_3 (ht : TreeI σ tv t) (hf : Fr σ s0) (hi : i < t.length) (h0 : 0 < i) (hU : ∀ j, 0 < j → j < i → OkU t j) {u : Nat} (v0 : V e0 0 = tv) (v4 : V e0 4 = .int .i64 (i : Int)) (v5 : V e0 5 = .int .i64 (u : Int)) (v6 : V e0 6 = .int .i64 ((i - 1 : Nat) : Int)) :
    W TS false (.loop L30_3) e0 s0 fun o e s => s = s0 ∧ o = .exit 2 ∧ V e 0 = tv ∧ V e 4 = .int .i64 (i : Int) ∧ V e 5 = .int .i64 (u : Int) ∧ V e 6 = .int .i64 ((walkR t u i (i - 1) : Nat) : Int) := by
  refine W_loop (fun n e s => ∃ k f : Nat, n = k ∧ s = s0 ∧ k < f ∧ k < i ∧ V e 0 = tv ∧ V e 4 = .int .i64 (i : Int) ∧ V e 5 = .int .i64 (u : Int) ∧ V e 6 = .int .i64 (k : Int) ∧ walkR t u i (i - 1) = walkR t u f k) (i - 1) ⟨i - 1, i, rfl, rfl, by omega, by omega, v0, v4, v5, v6, rfl⟩ ?_
  clear v0 v4 v5 v6
  rintro n e s ⟨k, f, rfl, rfl, hkf, hki, v0, v4, v5, v6, hN⟩
  cases f with
  | zero => omega
  | succ f =>
  rw [walkR] at hN
  repeat' (first | ((first | apply RG_step | apply DG_step | apply DG_read); focus (intro hgd; have hgd2 := hgd; (try simp only [sB] at hgd); (try simp only [sP] at hgd2); simp (maxSteps := 1000000) (disch := (first | omega | assumption | exact Fr.refl _)) only [hgd, sR, reduceIte, Nat.reduceEqDiff, Int.reduceLT, Int.reduceLE, Int.reduceEq, Int.reduceNeg, reduceCtorEq, Nat.reduceAdd, Int.reduceToNat, L30_3, B30_10, B30_11, v0, v4, v5, v6, ht.ixz, ht.n4, ht.a4]; exact StepIs_refl)) | ((first | refine Br_intro ?_ ?_ | refine BrB_intro ?_ ?_) <;> intro hbr hbe <;> simp (maxSteps := 1000000) (disch := (first | omega | assumption | exact Fr.refl _)) only [hbe, sR, reduceIte, Nat.reduceEqDiff, Int.reduceLT, Int.reduceLE, Int.reduceEq, Int.reduceNeg, reduceCtorEq, Nat.reduceAdd, Int.reduceToNat, L30_3, B30_10, B30_11, v0, v4, v5, v6, ht.ixz, ht.n4, ht.a4] <;> clear hbe) | simp (maxSteps := 1000000) (disch := (first | omega | assumption | exact Fr.refl _)) only [sR, reduceIte, Nat.reduceEqDiff, Int.reduceLT, Int.reduceLE, Int.reduceEq, Int.reduceNeg, reduceCtorEq, Nat.reduceAdd, Int.reduceToNat, L30_3, B30_10, B30_11, v0, v4, v5, v6, ht.ixz, ht.n4, ht.a4])
  · simp only [Bool.and_eq_true, Bool.not_eq_true', decide_eq_true_eq, decide_eq_false_iff_not] at hbr
    obtain ⟨u', hu', hlt', -⟩ := (hU n (by omega) hki).up
    rw [if_pos ⟨by omega, by omega⟩, hu'] at hN
    exact ⟨u', hlt', u', f, rfl, rfl, by omega, by omega, by simp only [sV, Nat.reduceEqDiff, reduceIte, Nat.reduceAdd, v0], by simp only [sV, Nat.reduceEqDiff, reduceIte, Nat.reduceAdd, v4], by simp only [sV, Nat.reduceEqDiff, reduceIte, Nat.reduceAdd, v5], by simp only [sV, Nat.reduceEqDiff, reduceIte, Nat.reduceAdd, hu'], hN⟩
  · simp only [Bool.and_eq_false_iff, Bool.not_eq_false', decide_eq_true_eq, decide_eq_false_iff_not] at hbr
    rw [hN, if_neg (by omega)]
end

section
variable {σ s0 : St} {t : List ND} {tv : AVal} {e0 : Env} {b : Nat}
set_option maxHeartbeats 16000000 in
theorem shaped_2 (ht : TreeI σ tv t) (hf : Fr σ s0) (hO : OwnI s0 b (cntAt t 1)) (hb : σ.next ≤ b) (hU : ∀ j, 0 < j → j < t.length → OkU t j) (hN : t.length ≤ 16384) (hN0 : 0 < t.length) (v0 : V e0 0 = tv) (v7 : V e0 7 = .slice b 0 t.length 1) (v8 : V e0 8 = .int .i64 1) :
    W TS false (.loop L30_2) e0 s0 fun o e s => Fr σ s ∧ ((o = .exit 4 ∧ OwnI s b (cntAt t t.length) ∧ (∀ j, 0 < j → j < t.length → KidOK t j) ∧ V e 0 = tv ∧ V e 7 = .slice b 0 t.length 1) ∨ (o = .ret ∧ ¬ ShapedP t ∧ V e 2 = .bool false)) := by
  refine W_loop (fun n e s => ∃ i : Nat, i + n = t.length ∧ 0 < i ∧ Fr σ s ∧ OwnI s b (cntAt t i) ∧ V e 0 = tv ∧ V e 7 = .slice b 0 t.length 1 ∧ V e 8 = .int .i64 (i : Int) ∧ (∀ j, 0 < j → j < i → KidOK t j)) (t.length - 1) ⟨1, by omega, by decide, hf, hO, v0, v7, v8, fun j h1 h2 => by omega⟩ ?_
  clear v0 v7 v8 hO hf
  rintro n e s ⟨i, hin, hi0, hf, hO, v0, v7, v8, hK⟩
  repeat' (first | ((first | apply RG_step | apply DG_step | apply DG_read); focus (intro hgd; have hgd2 := hgd; (try simp only [sB] at hgd); (try simp only [sP] at hgd2); simp (maxSteps := 1000000) (disch := (first | omega | assumption | exact Fr.refl _)) only [hgd, sR, reduceIte, Nat.reduceEqDiff, Int.reduceLT, Int.reduceLE, Int.reduceEq, Int.reduceNeg, reduceCtorEq, Nat.reduceAdd, Int.reduceToNat, L30_2, B30_4, v0, v7, v8, ht.len]; exact StepIs_refl)) | ((first | refine Br_intro ?_ ?_ | refine BrB_intro ?_ ?_) <;> intro hbr hbe <;> simp (maxSteps := 1000000) (disch := (first | omega | assumption | exact Fr.refl _)) only [hbe, sR, reduceIte, Nat.reduceEqDiff, Int.reduceLT, Int.reduceLE, Int.reduceEq, Int.reduceNeg, reduceCtorEq, Nat.reduceAdd, Int.reduceToNat, L30_2, B30_4, v0, v7, v8, ht.len] <;> clear hbe) | simp (maxSteps := 1000000) (disch := (first | omega | assumption | exact Fr.refl _)) only [sR, reduceIte, Nat.reduceEqDiff, Int.reduceLT, Int.reduceLE, Int.reduceEq, Int.reduceNeg, reduceCtorEq, Nat.reduceAdd, Int.reduceToNat, L30_2, B30_4, v0, v7, v8, ht.len])
  · have hi : i < t.length := by omega
    obtain ⟨u, hu, hlt, -⟩ := (hU i hi0 hi).up
    have hcl := cntAt_len t i
    have hcle := cntAt_le t i u
    repeat' (first | ((first | apply RG_step | apply DG_step | apply DG_read); focus (intro hgd; have hgd2 := hgd; (try simp only [sB] at hgd); (try simp only [sP] at hgd2); simp (maxSteps := 1000000) (disch := (first | omega | assumption | exact Fr.refl _)) only [hgd, sR, reduceIte, Nat.reduceEqDiff, Int.reduceLT, Int.reduceLE, Int.reduceEq, Int.reduceNeg, reduceCtorEq, Nat.reduceAdd, Int.reduceToNat, B30_8, B30_5, B30_6, v0, v7, v8, hu, ht.ixz, ht.n4, ht.a4, ht.a5, ht.n5, ht.kl, ht.kx, ht.kd, ixS_sl, hO.ld, Nat.mul_one]; exact StepIs_refl)) | ((first | refine Br_intro ?_ ?_ | refine BrB_intro ?_ ?_) <;> intro hbr hbe <;> simp (maxSteps := 1000000) (disch := (first | omega | assumption | exact Fr.refl _)) only [hbe, sR, reduceIte, Nat.reduceEqDiff, Int.reduceLT, Int.reduceLE, Int.reduceEq, Int.reduceNeg, reduceCtorEq, Nat.reduceAdd, Int.reduceToNat, B30_8, B30_5, B30_6, v0, v7, v8, hu, ht.ixz, ht.n4, ht.a4, ht.a5, ht.n5, ht.kl, ht.kx, ht.kd, ixS_sl, hO.ld, Nat.mul_one] <;> clear hbe) | simp (maxSteps := 1000000) (disch := (first | omega | assumption | exact Fr.refl _)) only [sR, reduceIte, Nat.reduceEqDiff, Int.reduceLT, Int.reduceLE, Int.reduceEq, Int.reduceNeg, reduceCtorEq, Nat.reduceAdd, Int.reduceToNat, B30_8, B30_5, B30_6, v0, v7, v8, hu, ht.ixz, ht.n4, ht.a4, ht.a5, ht.n5, ht.kl, ht.kx, ht.kd, ixS_sl, hO.ld, Nat.mul_one])
    · refine ⟨hf, .inr fun h => ?_⟩
      obtain ⟨h1, h2⟩ := h.kids i hi0 hi
      rw [hu, Int.toNat_natCast] at h1 h2
      rw [decide_eq_true h2, decide_eq_false (by omega)] at hbr
      exact absurd hbr (by decide)
    · simp only [Bool.or_eq_false_iff, decide_eq_false_iff_not, Bool.not_eq_false', decide_eq_true_eq] at hbr
      repeat' (first | ((first | apply RG_step | apply DG_step | apply DG_read); focus (intro hgd; have hgd2 := hgd; (try simp only [sB] at hgd); (try simp only [sP] at hgd2); simp (maxSteps := 1000000) (disch := (first | omega | assumption | exact Fr.refl _)) only [hgd, sR, reduceIte, Nat.reduceEqDiff, Int.reduceLT, Int.reduceLE, Int.reduceEq, Int.reduceNeg, reduceCtorEq, Nat.reduceAdd, Int.reduceToNat, B30_7, B30_9, v0, v7, v8, w_add1, ixS_sl, hO.ld, hO.st, Nat.mul_one]; exact StepIs_refl)) | ((first | refine Br_intro ?_ ?_ | refine BrB_intro ?_ ?_) <;> intro hbr hbe <;> simp (maxSteps := 1000000) (disch := (first | omega | assumption | exact Fr.refl _)) only [hbe, sR, reduceIte, Nat.reduceEqDiff, Int.reduceLT, Int.reduceLE, Int.reduceEq, Int.reduceNeg, reduceCtorEq, Nat.reduceAdd, Int.reduceToNat, B30_7, B30_9, v0, v7, v8, w_add1, ixS_sl, hO.ld, hO.st, Nat.mul_one] <;> clear hbe) | simp (maxSteps := 1000000) (disch := (first | omega | assumption | exact Fr.refl _)) only [sR, reduceIte, Nat.reduceEqDiff, Int.reduceLT, Int.reduceLE, Int.reduceEq, Int.reduceNeg, reduceCtorEq, Nat.reduceAdd, Int.reduceToNat, B30_7, B30_9, v0, v7, v8, w_add1, ixS_sl, hO.ld, hO.st, Nat.mul_one])
      refine ⟨n - 1, by omega, i + 1, by omega, by omega, hO.frI (by omega) hf hb, ?_, by simp only [sV, Nat.reduceEqDiff, reduceIte, Nat.reduceAdd, v0], by simp only [sV, Nat.reduceEqDiff, reduceIte, Nat.reduceAdd, v7], by simp only [sV, Nat.reduceEqDiff, reduceIte, Nat.reduceAdd], fun j h1 h2 => ?_⟩
      · have := hO.stI (i := u) (w := (cntAt t i).getD u 0 + 1) (by omega)
        rw [cntAt, if_neg (by omega), hu, Int.toNat_natCast]; exact this
      · by_cases hj : j = i
        · subst hj; exact ⟨by rw [hu, Int.toNat_natCast]; omega, by rw [hu, Int.toNat_natCast]; exact hbr.2⟩
        · exact hK j h1 (by omega)
  · exact ⟨hf, .inl ⟨by rw [show t.length = i by omega]; exact hO, fun j h1 h2 => hK j h1 (by omega)⟩⟩
end

section
variable {σ s0 : St} {t : List ND} {tv : AVal} {e0 : Env} {b : Nat}
set_option maxHeartbeats 16000000 in
theorem shaped_1 (ht : TreeI σ tv t) (hf : Fr σ s0) (hO : OwnI s0 b (cntAt t t.length)) (hN : t.length ≤ 16384) (v0 : V e0 0 = tv) (v7 : V e0 7 = .slice b 0 t.length 1) (v10 : V e0 10 = .int .i64 0) :
    W TS false (.loop L30_1) e0 s0 fun o e s => s = s0 ∧ ((o = .exit 6 ∧ (∀ j, j < t.length → (cntAt t t.length).getD j 0 = (t.getD j nd0).kids.length)) ∨ (o = .ret ∧ ¬ ShapedP t ∧ V e 2 = .bool false)) := by
  refine W_loop (fun n e s => ∃ i : Nat, i + n = t.length ∧ s = s0 ∧ V e 0 = tv ∧ V e 7 = .slice b 0 t.length 1 ∧ V e 10 = .int .i64 (i : Int) ∧ (∀ j, j < i → (cntAt t t.length).getD j 0 = (t.getD j nd0).kids.length)) t.length ⟨0, by omega, rfl, v0, v7, v10, fun j h1 => by omega⟩ ?_
  clear v0 v7 v10
  rintro n e s ⟨i, hin, rfl, v0, v7, v10, hK⟩
  have hcl := cntAt_len t t.length
  repeat' (first | ((first | apply RG_step | apply DG_step | apply DG_read); focus (intro hgd; have hgd2 := hgd; (try simp only [sB] at hgd); (try simp only [sP] at hgd2); simp (maxSteps := 1000000) (disch := (first | omega | assumption | exact Fr.refl _)) only [hgd, sR, reduceIte, Nat.reduceEqDiff, Int.reduceLT, Int.reduceLE, Int.reduceEq, Int.reduceNeg, reduceCtorEq, Nat.reduceAdd, Int.reduceToNat, L30_1, B30_1, B30_2, B30_3, v0, v7, v10, ht.len, ht.ixz, ht.n5, ht.a5, ht.kl, ixS_sl, hO.ld, Nat.mul_one, w_add1]; exact StepIs_refl)) | ((first | refine Br_intro ?_ ?_ | refine BrB_intro ?_ ?_) <;> intro hbr hbe <;> simp (maxSteps := 1000000) (disch := (first | omega | assumption | exact Fr.refl _)) only [hbe, sR, reduceIte, Nat.reduceEqDiff, Int.reduceLT, Int.reduceLE, Int.reduceEq, Int.reduceNeg, reduceCtorEq, Nat.reduceAdd, Int.reduceToNat, L30_1, B30_1, B30_2, B30_3, v0, v7, v10, ht.len, ht.ixz, ht.n5, ht.a5, ht.kl, ixS_sl, hO.ld, Nat.mul_one, w_add1] <;> clear hbe) | simp (maxSteps := 1000000) (disch := (first | omega | assumption | exact Fr.refl _)) only [sR, reduceIte, Nat.reduceEqDiff, Int.reduceLT, Int.reduceLE, Int.reduceEq, Int.reduceNeg, reduceCtorEq, Nat.reduceAdd, Int.reduceToNat, L30_1, B30_1, B30_2, B30_3, v0, v7, v10, ht.len, ht.ixz, ht.n5, ht.a5, ht.kl, ixS_sl, hO.ld, Nat.mul_one, w_add1])
  · refine ⟨n - 1, by omega, i + 1, by omega, rfl, by simp only [sV, Nat.reduceEqDiff, reduceIte, Nat.reduceAdd, v0], by simp only [sV, Nat.reduceEqDiff, reduceIte, Nat.reduceAdd, v7], by simp only [sV, Nat.reduceEqDiff, reduceIte, Nat.reduceAdd], fun j h1 => ?_⟩
    by_cases hj : j = i
    · subst hj; omega
    · exact hK j (by omega)
  · refine .inr fun h => ?_
    have := h.all i (by omega); omega
  · exact .inl fun j h1 => hK j (by omega)
end

set_option maxHeartbeats 16000000 in
theorem shaped_ok {σ : St} {t : List ND} {tv : AVal} (ht : TreeI σ tv t) : CW TS false 30 [tv] σ fun v s => ∃ b, v = .bool b ∧ (b = true ↔ ShapedP t) ∧ Fr σ s := by
  refine CW_of fn30 rfl ?_
  repeat' (first | ((first | apply RG_step | apply DG_step | apply DG_read); focus (intro hgd; have hgd2 := hgd; (try simp only [sB] at hgd); (try simp only [sP] at hgd2); simp (maxSteps := 1000000) (disch := (first | omega | assumption | exact Fr.refl _)) only [hgd, sR, reduceIte, Nat.reduceEqDiff, Int.reduceLT, Int.reduceLE, Int.reduceEq, Int.reduceNeg, reduceCtorEq, Nat.reduceAdd, Int.reduceToNat, c30, B30_18, ht.len, ht.ixz, ht.n0, ht.a0, ht.n4, ht.a4]; exact StepIs_refl)) | ((first | refine Br_intro ?_ ?_ | refine BrB_intro ?_ ?_) <;> intro hbr hbe <;> simp (maxSteps := 1000000) (disch := (first | omega | assumption | exact Fr.refl _)) only [hbe, sR, reduceIte, Nat.reduceEqDiff, Int.reduceLT, Int.reduceLE, Int.reduceEq, Int.reduceNeg, reduceCtorEq, Nat.reduceAdd, Int.reduceToNat, c30, B30_18, ht.len, ht.ixz, ht.n0, ht.a0, ht.n4, ht.a4] <;> clear hbe) | simp (maxSteps := 1000000) (disch := (first | omega | assumption | exact Fr.refl _)) only [sR, reduceIte, Nat.reduceEqDiff, Int.reduceLT, Int.reduceLE, Int.reduceEq, Int.reduceNeg, reduceCtorEq, Nat.reduceAdd, Int.reduceToNat, c30, B30_18, ht.len, ht.ixz, ht.n0, ht.a0, ht.n4, ht.a4])
  · refine ⟨false, rfl, ⟨fun h => by simp at h, fun h => ?_⟩, Fr.refl _⟩
    have := h.head; rw [headS_eq, hbr] at this; simp at this
  have hH : headS t = true := by rw [headS_eq, hbr]; rfl
  simp only [Bool.or_eq_false_iff, decide_eq_false_iff_not] at hbr
  refine W_mono (Q := fun o e s => s = σ ∧ ((o = .exit 0 ∧ (∀ j, 0 < j → j < t.length → OkU t j) ∧ V e 0 = tv) ∨ (o = .ret ∧ ¬ ShapedP t ∧ V e 2 = .bool false))) ?_ ?_
  · refine W_loop (fun n e s => ∃ i : Nat, i + n = t.length ∧ 0 < i ∧ s = σ ∧ V e 0 = tv ∧ V e 3 = .int .i64 ((i - 1 : Nat) : Int) ∧ V e 4 = .int .i64 (i : Int) ∧ (∀ j, 0 < j → j < i → OkU t j)) (t.length - 1) ⟨1, by omega, by decide, rfl, by simp only [sV, Nat.reduceEqDiff, reduceIte, Nat.reduceAdd], by simp only [sV, Nat.reduceEqDiff, reduceIte, Nat.reduceAdd]; rfl, by simp only [sV, Nat.reduceEqDiff, reduceIte, Nat.reduceAdd]; rfl, fun j h1 h2 => by omega⟩ ?_
    rintro n e s ⟨i, hin, hi0, rfl, v0, v3, v4, hU⟩
    repeat' (first | ((first | apply RG_step | apply DG_step | apply DG_read); focus (intro hgd; have hgd2 := hgd; (try simp only [sB] at hgd); (try simp only [sP] at hgd2); simp (maxSteps := 1000000) (disch := (first | omega | assumption | exact Fr.refl _)) only [hgd, sR, reduceIte, Nat.reduceEqDiff, Int.reduceLT, Int.reduceLE, Int.reduceEq, Int.reduceNeg, reduceCtorEq, Nat.reduceAdd, Int.reduceToNat, L30_4, B30_12, B30_16, B30_13, v0, v3, v4, ht.len, ht.ixz, ht.n4, ht.a4]; exact StepIs_refl)) | ((first | refine Br_intro ?_ ?_ | refine BrB_intro ?_ ?_) <;> intro hbr hbe <;> simp (maxSteps := 1000000) (disch := (first | omega | assumption | exact Fr.refl _)) only [hbe, sR, reduceIte, Nat.reduceEqDiff, Int.reduceLT, Int.reduceLE, Int.reduceEq, Int.reduceNeg, reduceCtorEq, Nat.reduceAdd, Int.reduceToNat, L30_4, B30_12, B30_16, B30_13, v0, v3, v4, ht.len, ht.ixz, ht.n4, ht.a4] <;> clear hbe) | simp (maxSteps := 1000000) (disch := (first | omega | assumption | exact Fr.refl _)) only [sR, reduceIte, Nat.reduceEqDiff, Int.reduceLT, Int.reduceLE, Int.reduceEq, Int.reduceNeg, reduceCtorEq, Nat.reduceAdd, Int.reduceToNat, L30_4, B30_12, B30_16, B30_13, v0, v3, v4, ht.len, ht.ixz, ht.n4, ht.a4])
    · generalize hup : (t.getD i nd0).up = u
      repeat' (first | ((first | apply RG_step | apply DG_step | apply DG_read); focus (intro hgd; have hgd2 := hgd; (try simp only [sB] at hgd); (try simp only [sP] at hgd2); simp (maxSteps := 1000000) (disch := (first | omega | assumption | exact Fr.refl _)) only [hgd, sR, reduceIte, Nat.reduceEqDiff, Int.reduceLT, Int.reduceLE, Int.reduceEq, Int.reduceNeg, reduceCtorEq, Nat.reduceAdd, Int.reduceToNat, B30_14, v0, v3, v4, ht.ixz, ht.n0, ht.a0, ht.n1, ht.a1, RefKind_ok]; exact StepIs_refl)) | ((first | refine Br_intro ?_ ?_ | refine BrB_intro ?_ ?_) <;> intro hbr hbe <;> simp (maxSteps := 1000000) (disch := (first | omega | assumption | exact Fr.refl _)) only [hbe, sR, reduceIte, Nat.reduceEqDiff, Int.reduceLT, Int.reduceLE, Int.reduceEq, Int.reduceNeg, reduceCtorEq, Nat.reduceAdd, Int.reduceToNat, B30_14, v0, v3, v4, ht.ixz, ht.n0, ht.a0, ht.n1, ht.a1, RefKind_ok] <;> clear hbe) | simp (maxSteps := 1000000) (disch := (first | omega | assumption | exact Fr.refl _)) only [sR, reduceIte, Nat.reduceEqDiff, Int.reduceLT, Int.reduceLE, Int.reduceEq, Int.reduceNeg, reduceCtorEq, Nat.reduceAdd, Int.reduceToNat, B30_14, v0, v3, v4, ht.ixz, ht.n0, ht.a0, ht.n1, ht.a1, RefKind_ok])
      · refine .inr fun h => ?_
        obtain ⟨u', hu', hlt', hB, -⟩ := (h.ups i hi0 (by omega)).up
        rw [hup] at hu'; subst hu'
        rw [upBad_eq] at hB
        simp only [Int.toNat_natCast] at hbr
        rw [decide_eq_false (by omega), decide_eq_false (by omega), Bool.false_or, Bool.or_assoc, Bool.false_or, hB] at hbr
        simp at hbr
      · have hbr2 := hbr
        simp only [Bool.or_eq_false_iff, decide_eq_false_iff_not] at hbr2
        obtain ⟨u', rfl⟩ := Int.eq_ofNat_of_zero_le (by omega : 0 ≤ u)
        have hB : upBad (t.getD u' nd0) = false := by
          rw [upBad_eq]
          simp only [Int.toNat_natCast] at hbr
          rw [decide_eq_false (by omega), decide_eq_false (by omega), Bool.false_or, Bool.or_assoc, Bool.false_or] at hbr
          exact hbr
        refine W_mono (shaped_3 ht (Fr.refl _) (by omega) hi0 hU (u := u') (by simp only [sV, Nat.reduceEqDiff, reduceIte, Nat.reduceAdd, v0]) (by simp only [sV, Nat.reduceEqDiff, reduceIte, Nat.reduceAdd, v4]) (by simp only [sV, Nat.reduceEqDiff, reduceIte, Nat.reduceAdd]) (by simp only [sV, Nat.reduceEqDiff, reduceIte, Nat.reduceAdd, v3])) ?_
        rintro o e' s' ⟨rfl, rfl, v0, v4, v5, v6⟩
        repeat' (first | ((first | apply RG_step | apply DG_step | apply DG_read); focus (intro hgd; have hgd2 := hgd; (try simp only [sB] at hgd); (try simp only [sP] at hgd2); simp (maxSteps := 1000000) (disch := (first | omega | assumption | exact Fr.refl _)) only [hgd, sR, reduceIte, Nat.reduceEqDiff, Int.reduceLT, Int.reduceLE, Int.reduceEq, Int.reduceNeg, reduceCtorEq, Nat.reduceAdd, Int.reduceToNat, B30_15, B30_17, v0, v4, v5, v6, w_add1]; exact StepIs_refl)) | ((first | refine Br_intro ?_ ?_ | refine BrB_intro ?_ ?_) <;> intro hbr hbe <;> simp (maxSteps := 1000000) (disch := (first | omega | assumption | exact Fr.refl _)) only [hbe, sR, reduceIte, Nat.reduceEqDiff, Int.reduceLT, Int.reduceLE, Int.reduceEq, Int.reduceNeg, reduceCtorEq, Nat.reduceAdd, Int.reduceToNat, B30_15, B30_17, v0, v4, v5, v6, w_add1] <;> clear hbe) | simp (maxSteps := 1000000) (disch := (first | omega | assumption | exact Fr.refl _)) only [sR, reduceIte, Nat.reduceEqDiff, Int.reduceLT, Int.reduceLE, Int.reduceEq, Int.reduceNeg, reduceCtorEq, Nat.reduceAdd, Int.reduceToNat, B30_15, B30_17, v0, v4, v5, v6, w_add1])
        · refine ⟨n - 1, by omega, i + 1, by omega, by omega, rfl, by simp only [sV, Nat.reduceEqDiff, reduceIte, Nat.reduceAdd, v0], by simp only [sV, Nat.reduceEqDiff, reduceIte, Nat.reduceAdd, v4]; rfl, by simp only [sV, Nat.reduceEqDiff, reduceIte, Nat.reduceAdd], fun j h1 h2 => ?_⟩
          by_cases hj : j = i
          · subst hj; exact ⟨u', hup, by omega, hB, by omega⟩
          · exact hU j h1 (by omega)
        · refine .inr fun h => ?_
          obtain ⟨u2, hu2, -, -, hw⟩ := (h.ups i hi0 (by omega)).up
          rw [hup] at hu2
          have : u' = u2 := by omega
          subst this; omega
    · exact .inl fun j h1 h2 => hU j h1 (by omega)
  · rintro o e s ⟨rfl, ⟨rfl, hU, v0⟩ | ⟨rfl, h1, v2⟩⟩
    · repeat' (first | ((first | apply RG_step | apply DG_step | apply DG_read); focus (intro hgd; have hgd2 := hgd; (try simp only [sB] at hgd); (try simp only [sP] at hgd2); simp (maxSteps := 1000000) (disch := (first | omega | assumption | exact Fr.refl _)) only [hgd, sR, reduceIte, Nat.reduceEqDiff, Int.reduceLT, Int.reduceLE, Int.reduceEq, Int.reduceNeg, reduceCtorEq, Nat.reduceAdd, Int.reduceToNat, B30_19, v0, ht.len, opMkSlice_s, mkS_nat]; exact StepIs_refl)) | ((first | refine Br_intro ?_ ?_ | refine BrB_intro ?_ ?_) <;> intro hbr hbe <;> simp (maxSteps := 1000000) (disch := (first | omega | assumption | exact Fr.refl _)) only [hbe, sR, reduceIte, Nat.reduceEqDiff, Int.reduceLT, Int.reduceLE, Int.reduceEq, Int.reduceNeg, reduceCtorEq, Nat.reduceAdd, Int.reduceToNat, B30_19, v0, ht.len, opMkSlice_s, mkS_nat] <;> clear hbe) | simp (maxSteps := 1000000) (disch := (first | omega | assumption | exact Fr.refl _)) only [sR, reduceIte, Nat.reduceEqDiff, Int.reduceLT, Int.reduceLE, Int.reduceEq, Int.reduceNeg, reduceCtorEq, Nat.reduceAdd, Int.reduceToNat, B30_19, v0, ht.len, opMkSlice_s, mkS_nat])
      have hO : OwnI (s.new (.cells true 3 (rep [.int .i64 0] t.length))) s.next (cntAt t 1) := by
        refine ⟨Nat.lt_succ_self _, true, _, St.get_new_same _ _, ?_, ?_⟩
        · rw [cntAt_len, rep_0]; simp
        · rw [cntAt_len, rep_0, List.take_of_length_le (by simp)]; rfl
      refine W_mono (shaped_2 ht (Fr.new _ _) hO (Nat.le_refl _) hU (by omega) (by omega) (by simp only [sV, Nat.reduceEqDiff, reduceIte, Nat.reduceAdd, v0]) (by simp only [sV, Nat.reduceEqDiff, reduceIte, Nat.reduceAdd]) (by simp only [sV, Nat.reduceEqDiff, reduceIte, Nat.reduceAdd])) ?_
      rintro o e s ⟨hf, ⟨rfl, hO, hK, v0, v7⟩ | ⟨rfl, h1, v2⟩⟩
      · repeat' (first | ((first | apply RG_step | apply DG_step | apply DG_read); focus (intro hgd; have hgd2 := hgd; (try simp only [sB] at hgd); (try simp only [sP] at hgd2); simp (maxSteps := 1000000) (disch := (first | omega | assumption | exact Fr.refl _)) only [hgd, sR, reduceIte, Nat.reduceEqDiff, Int.reduceLT, Int.reduceLE, Int.reduceEq, Int.reduceNeg, reduceCtorEq, Nat.reduceAdd, Int.reduceToNat, v0, v7]; exact StepIs_refl)) | ((first | refine Br_intro ?_ ?_ | refine BrB_intro ?_ ?_) <;> intro hbr hbe <;> simp (maxSteps := 1000000) (disch := (first | omega | assumption | exact Fr.refl _)) only [hbe, sR, reduceIte, Nat.reduceEqDiff, Int.reduceLT, Int.reduceLE, Int.reduceEq, Int.reduceNeg, reduceCtorEq, Nat.reduceAdd, Int.reduceToNat, v0, v7] <;> clear hbe) | simp (maxSteps := 1000000) (disch := (first | omega | assumption | exact Fr.refl _)) only [sR, reduceIte, Nat.reduceEqDiff, Int.reduceLT, Int.reduceLE, Int.reduceEq, Int.reduceNeg, reduceCtorEq, Nat.reduceAdd, Int.reduceToNat, v0, v7])
        refine W_mono (shaped_1 ht hf hO (by omega) (by simp only [sV, Nat.reduceEqDiff, reduceIte, Nat.reduceAdd, v0]) (by simp only [sV, Nat.reduceEqDiff, reduceIte, Nat.reduceAdd, v7]) (by simp only [sV, Nat.reduceEqDiff, reduceIte, Nat.reduceAdd])) ?_
        rintro o e s ⟨rfl, ⟨rfl, hA⟩ | ⟨rfl, h1, v2⟩⟩
        · repeat' (first | ((first | apply RG_step | apply DG_step | apply DG_read); focus (intro hgd; have hgd2 := hgd; (try simp only [sB] at hgd); (try simp only [sP] at hgd2); simp (maxSteps := 1000000) (disch := (first | omega | assumption | exact Fr.refl _)) only [hgd, sR, reduceIte, Nat.reduceEqDiff, Int.reduceLT, Int.reduceLE, Int.reduceEq, Int.reduceNeg, reduceCtorEq, Nat.reduceAdd, Int.reduceToNat]; exact StepIs_refl)) | ((first | refine Br_intro ?_ ?_ | refine BrB_intro ?_ ?_) <;> intro hbr hbe <;> simp (maxSteps := 1000000) (disch := (first | omega | assumption | exact Fr.refl _)) only [hbe, sR, reduceIte, Nat.reduceEqDiff, Int.reduceLT, Int.reduceLE, Int.reduceEq, Int.reduceNeg, reduceCtorEq, Nat.reduceAdd, Int.reduceToNat] <;> clear hbe) | simp (maxSteps := 1000000) (disch := (first | omega | assumption | exact Fr.refl _)) only [sR, reduceIte, Nat.reduceEqDiff, Int.reduceLT, Int.reduceLE, Int.reduceEq, Int.reduceNeg, reduceCtorEq, Nat.reduceAdd, Int.reduceToNat])
          exact ⟨true, rfl, ⟨fun _ => ⟨hH, hU, hK, hA⟩, fun _ => rfl⟩, hf⟩
        · repeat' (first | ((first | apply RG_step | apply DG_step | apply DG_read); focus (intro hgd; have hgd2 := hgd; (try simp only [sB] at hgd); (try simp only [sP] at hgd2); simp (maxSteps := 1000000) (disch := (first | omega | assumption | exact Fr.refl _)) only [hgd, sR, reduceIte, Nat.reduceEqDiff, Int.reduceLT, Int.reduceLE, Int.reduceEq, Int.reduceNeg, reduceCtorEq, Nat.reduceAdd, Int.reduceToNat, v2]; exact StepIs_refl)) | ((first | refine Br_intro ?_ ?_ | refine BrB_intro ?_ ?_) <;> intro hbr hbe <;> simp (maxSteps := 1000000) (disch := (first | omega | assumption | exact Fr.refl _)) only [hbe, sR, reduceIte, Nat.reduceEqDiff, Int.reduceLT, Int.reduceLE, Int.reduceEq, Int.reduceNeg, reduceCtorEq, Nat.reduceAdd, Int.reduceToNat, v2] <;> clear hbe) | simp (maxSteps := 1000000) (disch := (first | omega | assumption | exact Fr.refl _)) only [sR, reduceIte, Nat.reduceEqDiff, Int.reduceLT, Int.reduceLE, Int.reduceEq, Int.reduceNeg, reduceCtorEq, Nat.reduceAdd, Int.reduceToNat, v2])
          exact ⟨false, rfl, ⟨fun h => by simp at h, fun h => absurd h h1⟩, hf⟩
      · repeat' (first | ((first | apply RG_step | apply DG_step | apply DG_read); focus (intro hgd; have hgd2 := hgd; (try simp only [sB] at hgd); (try simp only [sP] at hgd2); simp (maxSteps := 1000000) (disch := (first | omega | assumption | exact Fr.refl _)) only [hgd, sR, reduceIte, Nat.reduceEqDiff, Int.reduceLT, Int.reduceLE, Int.reduceEq, Int.reduceNeg, reduceCtorEq, Nat.reduceAdd, Int.reduceToNat, v2]; exact StepIs_refl)) | ((first | refine Br_intro ?_ ?_ | refine BrB_intro ?_ ?_) <;> intro hbr hbe <;> simp (maxSteps := 1000000) (disch := (first | omega | assumption | exact Fr.refl _)) only [hbe, sR, reduceIte, Nat.reduceEqDiff, Int.reduceLT, Int.reduceLE, Int.reduceEq, Int.reduceNeg, reduceCtorEq, Nat.reduceAdd, Int.reduceToNat, v2] <;> clear hbe) | simp (maxSteps := 1000000) (disch := (first | omega | assumption | exact Fr.refl _)) only [sR, reduceIte, Nat.reduceEqDiff, Int.reduceLT, Int.reduceLE, Int.reduceEq, Int.reduceNeg, reduceCtorEq, Nat.reduceAdd, Int.reduceToNat, v2])
        exact ⟨false, rfl, ⟨fun h => by simp at h, fun h => absurd h h1⟩, hf⟩
    · repeat' (first | ((first | apply RG_step | apply DG_step | apply DG_read); focus (intro hgd; have hgd2 := hgd; (try simp only [sB] at hgd); (try simp only [sP] at hgd2); simp (maxSteps := 1000000) (disch := (first | omega | assumption | exact Fr.refl _)) only [hgd, sR, reduceIte, Nat.reduceEqDiff, Int.reduceLT, Int.reduceLE, Int.reduceEq, Int.reduceNeg, reduceCtorEq, Nat.reduceAdd, Int.reduceToNat, v2]; exact StepIs_refl)) | ((first | refine Br_intro ?_ ?_ | refine BrB_intro ?_ ?_) <;> intro hbr hbe <;> simp (maxSteps := 1000000) (disch := (first | omega | assumption | exact Fr.refl _)) only [hbe, sR, reduceIte, Nat.reduceEqDiff, Int.reduceLT, Int.reduceLE, Int.reduceEq, Int.reduceNeg, reduceCtorEq, Nat.reduceAdd, Int.reduceToNat, v2] <;> clear hbe) | simp (maxSteps := 1000000) (disch := (first | omega | assumption | exact Fr.refl _)) only [sR, reduceIte, Nat.reduceEqDiff, Int.reduceLT, Int.reduceLE, Int.reduceEq, Int.reduceNeg, reduceCtorEq, Nat.reduceAdd, Int.reduceToNat, v2])
      exact ⟨false, rfl, ⟨fun h => by simp at h, fun h => absurd h h1⟩, Fr.refl _⟩
end Go.Ab.Dirs
end
