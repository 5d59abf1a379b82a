/- selvedgeref05.Right. -/
import Derived.Test.YthbanbnmomcohaaGreatDoorM28
import Derived.Test.YthbanbnmomcohaaGreatDoorM26
set_option linter.all false
set_option linter.unusedSimpArgs false
set_option maxRecDepth 100000
noncomputable section
namespace Go.Ab.Dirs
open Go Go.Ab

/-- A node, by itself. -/
def nodeR (t : List ND) (i : Nat) (n : ND) : Bool :=
  if n.kind = 0 then decide ((i : Int) = 0) && decide (n.name = []) && decide ((n.attrs.length : Int) = 0) && decide (n.data = []) else
  if n.kind = 1 then decide ((0 : Int) < kindS n.name) && decide (n.data = []) && attrsS n.attrs && nestR t (kindS n.name) i n.up.toNat 0 false else
  if n.kind = 2 then decide (n.name = []) && decide ((n.attrs.length : Int) = 0) && !decide (n.data = []) && wellS n.data else false

theorem rnested_eq {σ : St} {t : List ND} {tv : AVal} (ht : TreeI σ tv t) (hU : UpsR t) (hb : t.length ≤ 16384) {i : Nat} (h0 : 0 < i) (hi : i < t.length) : Cw TS false 33 [tv, .int .i64 (i : Int)] σ = some (.bool (nestR t (kindS (t.getD i nd0).name) i (t.getD i nd0).up.toNat 0 false), σ) := by
  obtain ⟨v, s, h1, rfl, rfl⟩ := CW_iff.1 (rnested_ok ht hU hb h0 hi); exact h1

section
variable {σ s0 : St} {t : List ND} {tv : AVal} {e0 : Env} {b i : Nat}
set_option maxHeartbeats 16000000 in
theorem right_sw (ht : TreeI σ tv t) (hf : Fr σ s0) (hwf : ∀ n ∈ t, NWF n) (hU : UpsR t) (hN : t.length ≤ 16384) (hi : i < t.length) (hi1 : (t.getD i nd0).kind = 1 → 0 < i) {f : Bool} {ty : TypeId}
    (hg : s0.get b = some (.cells f ty [.int .u8 ((t.getD i nd0).kind : Int), .str (t.getD i nd0).name, avO σ tv i, .str (t.getD i nd0).data, .int .i64 (t.getD i nd0).up, kvO σ tv i])) (hb : b < s0.next)
    (v0 : V e0 0 = tv) (v3 : V e0 3 = .int .i64 (i : Int)) (v4 : V e0 4 = .ptr b 0) (v21 : V e0 21 = .int .u8 ((t.getD i nd0).kind : Int)) :
    W TS false B18_9 e0 s0 fun o e s => o = .normal ∧ Fr s0 s ∧ V e 0 = tv ∧ V e 3 = .int .i64 (i : Int) ∧ V e 4 = .ptr b 0 ∧ V e 5 = .bool (nodeR t i (t.getD i nd0)) := by
  have hn := hwf t[i] (List.getElem_mem _)
  rw [← getD_lt hi nd0] at hn
  repeat' (first | ((first | apply RG_step | apply DG_step | apply DG_read); focus (intro hgd; have hgd2 := hgd; (try simp only [sB] at hgd); (try simp only [sP] at hgd2); simp (maxSteps := 1000000) (disch := (first | omega | assumption | exact Fr.refl _)) only [hgd, sR, reduceIte, Nat.reduceEqDiff, Int.reduceLT, Int.reduceLE, Int.reduceEq, Int.reduceNeg, reduceCtorEq, Nat.reduceAdd, Int.reduceToNat, B18_9, v0, v3, v4, v21]; exact StepIs_refl)) | ((first | refine Br_intro ?_ ?_ | refine BrB_intro ?_ ?_) <;> intro hbr hbe <;> simp (maxSteps := 1000000) (disch := (first | omega | assumption | exact Fr.refl _)) only [hbe, sR, reduceIte, Nat.reduceEqDiff, Int.reduceLT, Int.reduceLE, Int.reduceEq, Int.reduceNeg, reduceCtorEq, Nat.reduceAdd, Int.reduceToNat, B18_9, v0, v3, v4, v21] <;> clear hbe) | simp (maxSteps := 1000000) (disch := (first | omega | assumption | exact Fr.refl _)) only [sR, reduceIte, Nat.reduceEqDiff, Int.reduceLT, Int.reduceLE, Int.reduceEq, Int.reduceNeg, reduceCtorEq, Nat.reduceAdd, Int.reduceToNat, B18_9, v0, v3, v4, v21])
  repeat' (first | ((first | apply RG_step | apply DG_step | apply DG_read); focus (intro hgd; have hgd2 := hgd; (try simp only [sB] at hgd); (try simp only [sP] at hgd2); simp (maxSteps := 1000000) (disch := (first | omega | assumption | exact Fr.refl _)) only [hgd, sR, reduceIte, Nat.reduceEqDiff, Int.reduceLT, Int.reduceLE, Int.reduceEq, Int.reduceNeg, reduceCtorEq, Nat.reduceAdd, Int.reduceToNat, B18_8, v0, v3, v4, v21, hg, ht.al]; exact StepIs_refl)) | ((first | refine Br_intro ?_ ?_ | refine BrB_intro ?_ ?_) <;> intro hbr hbe <;> simp (maxSteps := 1000000) (disch := (first | omega | assumption | exact Fr.refl _)) only [hbe, sR, reduceIte, Nat.reduceEqDiff, Int.reduceLT, Int.reduceLE, Int.reduceEq, Int.reduceNeg, reduceCtorEq, Nat.reduceAdd, Int.reduceToNat, B18_8, v0, v3, v4, v21, hg, ht.al] <;> clear hbe) | simp (maxSteps := 1000000) (disch := (first | omega | assumption | exact Fr.refl _)) only [sR, reduceIte, Nat.reduceEqDiff, Int.reduceLT, Int.reduceLE, Int.reduceEq, Int.reduceNeg, reduceCtorEq, Nat.reduceAdd, Int.reduceToNat, B18_8, v0, v3, v4, v21, hg, ht.al])
  · have : nodeR t i (t.getD i nd0) = (decide ((i : Int) = 0) && decide ((t.getD i nd0).name = []) && decide (((t.getD i nd0).attrs.length : Int) = 0) && decide ((t.getD i nd0).data = [])) := by unfold nodeR; rw [if_pos (by omega)]
    rw [this]
    exact ⟨Fr.refl _, rfl⟩
  · repeat' (first | ((first | apply RG_step | apply DG_step | apply DG_read); focus (intro hgd; have hgd2 := hgd; (try simp only [sB] at hgd); (try simp only [sP] at hgd2); simp (maxSteps := 1000000) (disch := (first | omega | assumption | exact Fr.refl _)) only [hgd, sR, reduceIte, Nat.reduceEqDiff, Int.reduceLT, Int.reduceLE, Int.reduceEq, Int.reduceNeg, reduceCtorEq, Nat.reduceAdd, Int.reduceToNat, B18_7, v0, v3, v4, v21, hg, RefKind_ok]; exact StepIs_refl)) | ((first | refine Br_intro ?_ ?_ | refine BrB_intro ?_ ?_) <;> intro hbr hbe <;> simp (maxSteps := 1000000) (disch := (first | omega | assumption | exact Fr.refl _)) only [hbe, sR, reduceIte, Nat.reduceEqDiff, Int.reduceLT, Int.reduceLE, Int.reduceEq, Int.reduceNeg, reduceCtorEq, Nat.reduceAdd, Int.reduceToNat, B18_7, v0, v3, v4, v21, hg, RefKind_ok] <;> clear hbe) | simp (maxSteps := 1000000) (disch := (first | omega | assumption | exact Fr.refl _)) only [sR, reduceIte, Nat.reduceEqDiff, Int.reduceLT, Int.reduceLE, Int.reduceEq, Int.reduceNeg, reduceCtorEq, Nat.reduceAdd, Int.reduceToNat, B18_7, v0, v3, v4, v21, hg, RefKind_ok])
    · have hnr : nodeR t i (t.getD i nd0) = (decide ((0 : Int) < kindS (t.getD i nd0).name) && decide ((t.getD i nd0).data = []) && attrsS (t.getD i nd0).attrs && nestR t (kindS (t.getD i nd0).name) i (t.getD i nd0).up.toNat 0 false) := by unfold nodeR; rw [if_neg (by omega), if_pos (by omega)]
      rw [hnr]
      (refine RG_split ?_ ?_ <;> intro hs <;> have hs2 := hs <;> (try simp only [sB] at hs) <;> (try simp only [sP] at hs2))
      · repeat' (first | ((first | apply RG_step | apply DG_step | apply DG_read); focus (intro hgd; have hgd2 := hgd; (try simp only [sB] at hgd); (try simp only [sP] at hgd2); simp (maxSteps := 1000000) (disch := (first | omega | assumption | exact Fr.refl _)) only [hgd, sR, reduceIte, Nat.reduceEqDiff, Int.reduceLT, Int.reduceLE, Int.reduceEq, Int.reduceNeg, reduceCtorEq, Nat.reduceAdd, Int.reduceToNat, hs, hg, v0, v3, v4]; exact StepIs_refl)) | ((first | refine Br_intro ?_ ?_ | refine BrB_intro ?_ ?_) <;> intro hbr hbe <;> simp (maxSteps := 1000000) (disch := (first | omega | assumption | exact Fr.refl _)) only [hbe, sR, reduceIte, Nat.reduceEqDiff, Int.reduceLT, Int.reduceLE, Int.reduceEq, Int.reduceNeg, reduceCtorEq, Nat.reduceAdd, Int.reduceToNat, hs, hg, v0, v3, v4] <;> clear hbe) | simp (maxSteps := 1000000) (disch := (first | omega | assumption | exact Fr.refl _)) only [sR, reduceIte, Nat.reduceEqDiff, Int.reduceLT, Int.reduceLE, Int.reduceEq, Int.reduceNeg, reduceCtorEq, Nat.reduceAdd, Int.reduceToNat, hs, hg, v0, v3, v4])
        refine Bd_call (rattrs_ok ((ht.as hi).fr hf) hn.attrs) ?_
        rintro _ s2 ⟨rfl, hf2⟩
        have h33 := rnested_eq (ht.fr (hf.trans hf2)) hU hN (hi1 (by omega)) hi
        repeat' (first | ((first | apply RG_step | apply DG_step | apply DG_read); focus (intro hgd; have hgd2 := hgd; (try simp only [sB] at hgd); (try simp only [sP] at hgd2); simp (maxSteps := 1000000) (disch := (first | omega | assumption | exact Fr.refl _)) only [hgd, sR, reduceIte, Nat.reduceEqDiff, Int.reduceLT, Int.reduceLE, Int.reduceEq, Int.reduceNeg, reduceCtorEq, Nat.reduceAdd, Int.reduceToNat, hs, v0, v3, v4, h33]; exact StepIs_refl)) | ((first | refine Br_intro ?_ ?_ | refine BrB_intro ?_ ?_) <;> intro hbr hbe <;> simp (maxSteps := 1000000) (disch := (first | omega | assumption | exact Fr.refl _)) only [hbe, sR, reduceIte, Nat.reduceEqDiff, Int.reduceLT, Int.reduceLE, Int.reduceEq, Int.reduceNeg, reduceCtorEq, Nat.reduceAdd, Int.reduceToNat, hs, v0, v3, v4, h33] <;> clear hbe) | simp (maxSteps := 1000000) (disch := (first | omega | assumption | exact Fr.refl _)) only [sR, reduceIte, Nat.reduceEqDiff, Int.reduceLT, Int.reduceLE, Int.reduceEq, Int.reduceNeg, reduceCtorEq, Nat.reduceAdd, Int.reduceToNat, hs, v0, v3, v4, h33])
        exact hf2
      · repeat' (first | ((first | apply RG_step | apply DG_step | apply DG_read); focus (intro hgd; have hgd2 := hgd; (try simp only [sB] at hgd); (try simp only [sP] at hgd2); simp (maxSteps := 1000000) (disch := (first | omega | assumption | exact Fr.refl _)) only [hgd, sR, reduceIte, Nat.reduceEqDiff, Int.reduceLT, Int.reduceLE, Int.reduceEq, Int.reduceNeg, reduceCtorEq, Nat.reduceAdd, Int.reduceToNat, hs, v0, v3, v4]; exact StepIs_refl)) | ((first | refine Br_intro ?_ ?_ | refine BrB_intro ?_ ?_) <;> intro hbr hbe <;> simp (maxSteps := 1000000) (disch := (first | omega | assumption | exact Fr.refl _)) only [hbe, sR, reduceIte, Nat.reduceEqDiff, Int.reduceLT, Int.reduceLE, Int.reduceEq, Int.reduceNeg, reduceCtorEq, Nat.reduceAdd, Int.reduceToNat, hs, v0, v3, v4] <;> clear hbe) | simp (maxSteps := 1000000) (disch := (first | omega | assumption | exact Fr.refl _)) only [sR, reduceIte, Nat.reduceEqDiff, Int.reduceLT, Int.reduceLE, Int.reduceEq, Int.reduceNeg, reduceCtorEq, Nat.reduceAdd, Int.reduceToNat, hs, v0, v3, v4])
        exact Fr.refl _
    · repeat' (first | ((first | apply RG_step | apply DG_step | apply DG_read); focus (intro hgd; have hgd2 := hgd; (try simp only [sB] at hgd); (try simp only [sP] at hgd2); simp (maxSteps := 1000000) (disch := (first | omega | assumption | exact Fr.refl _)) only [hgd, sR, reduceIte, Nat.reduceEqDiff, Int.reduceLT, Int.reduceLE, Int.reduceEq, Int.reduceNeg, reduceCtorEq, Nat.reduceAdd, Int.reduceToNat, B18_6, v0, v3, v4, v21, hg, ht.al]; exact StepIs_refl)) | ((first | refine Br_intro ?_ ?_ | refine BrB_intro ?_ ?_) <;> intro hbr hbe <;> simp (maxSteps := 1000000) (disch := (first | omega | assumption | exact Fr.refl _)) only [hbe, sR, reduceIte, Nat.reduceEqDiff, Int.reduceLT, Int.reduceLE, Int.reduceEq, Int.reduceNeg, reduceCtorEq, Nat.reduceAdd, Int.reduceToNat, B18_6, v0, v3, v4, v21, hg, ht.al] <;> clear hbe) | simp (maxSteps := 1000000) (disch := (first | omega | assumption | exact Fr.refl _)) only [sR, reduceIte, Nat.reduceEqDiff, Int.reduceLT, Int.reduceLE, Int.reduceEq, Int.reduceNeg, reduceCtorEq, Nat.reduceAdd, Int.reduceToNat, B18_6, v0, v3, v4, v21, hg, ht.al])
      · have hnr : nodeR t i (t.getD i nd0) = (decide ((t.getD i nd0).name = []) && decide (((t.getD i nd0).attrs.length : Int) = 0) && !decide ((t.getD i nd0).data = []) && wellS (t.getD i nd0).data) := by unfold nodeR; rw [if_neg (by omega), if_neg (by omega), if_pos (by omega)]
        rw [hnr]
        (refine RG_split ?_ ?_ <;> intro hs <;> have hs2 := hs <;> (try simp only [sB] at hs) <;> (try simp only [sP] at hs2))
        · repeat' (first | ((first | apply RG_step | apply DG_step | apply DG_read); focus (intro hgd; have hgd2 := hgd; (try simp only [sB] at hgd); (try simp only [sP] at hgd2); simp (maxSteps := 1000000) (disch := (first | omega | assumption | exact Fr.refl _)) only [hgd, sR, reduceIte, Nat.reduceEqDiff, Int.reduceLT, Int.reduceLE, Int.reduceEq, Int.reduceNeg, reduceCtorEq, Nat.reduceAdd, Int.reduceToNat, hs, hg, v0, v3, v4]; exact StepIs_refl)) | ((first | refine Br_intro ?_ ?_ | refine BrB_intro ?_ ?_) <;> intro hbr hbe <;> simp (maxSteps := 1000000) (disch := (first | omega | assumption | exact Fr.refl _)) only [hbe, sR, reduceIte, Nat.reduceEqDiff, Int.reduceLT, Int.reduceLE, Int.reduceEq, Int.reduceNeg, reduceCtorEq, Nat.reduceAdd, Int.reduceToNat, hs, hg, v0, v3, v4] <;> clear hbe) | simp (maxSteps := 1000000) (disch := (first | omega | assumption | exact Fr.refl _)) only [sR, reduceIte, Nat.reduceEqDiff, Int.reduceLT, Int.reduceLE, Int.reduceEq, Int.reduceNeg, reduceCtorEq, Nat.reduceAdd, Int.reduceToNat, hs, hg, v0, v3, v4])
          refine Bd_call (CW_fr (rwell_ok _ _ hn.data)) ?_
          rintro _ s2 ⟨rfl, hf2⟩
          repeat' (first | ((first | apply RG_step | apply DG_step | apply DG_read); focus (intro hgd; have hgd2 := hgd; (try simp only [sB] at hgd); (try simp only [sP] at hgd2); simp (maxSteps := 1000000) (disch := (first | omega | assumption | exact Fr.refl _)) only [hgd, sR, reduceIte, Nat.reduceEqDiff, Int.reduceLT, Int.reduceLE, Int.reduceEq, Int.reduceNeg, reduceCtorEq, Nat.reduceAdd, Int.reduceToNat, hs, v0, v3, v4]; exact StepIs_refl)) | ((first | refine Br_intro ?_ ?_ | refine BrB_intro ?_ ?_) <;> intro hbr hbe <;> simp (maxSteps := 1000000) (disch := (first | omega | assumption | exact Fr.refl _)) only [hbe, sR, reduceIte, Nat.reduceEqDiff, Int.reduceLT, Int.reduceLE, Int.reduceEq, Int.reduceNeg, reduceCtorEq, Nat.reduceAdd, Int.reduceToNat, hs, v0, v3, v4] <;> clear hbe) | simp (maxSteps := 1000000) (disch := (first | omega | assumption | exact Fr.refl _)) only [sR, reduceIte, Nat.reduceEqDiff, Int.reduceLT, Int.reduceLE, Int.reduceEq, Int.reduceNeg, reduceCtorEq, Nat.reduceAdd, Int.reduceToNat, hs, v0, v3, v4])
          exact hf2
        · repeat' (first | ((first | apply RG_step | apply DG_step | apply DG_read); focus (intro hgd; have hgd2 := hgd; (try simp only [sB] at hgd); (try simp only [sP] at hgd2); simp (maxSteps := 1000000) (disch := (first | omega | assumption | exact Fr.refl _)) only [hgd, sR, reduceIte, Nat.reduceEqDiff, Int.reduceLT, Int.reduceLE, Int.reduceEq, Int.reduceNeg, reduceCtorEq, Nat.reduceAdd, Int.reduceToNat, hs, v0, v3, v4]; exact StepIs_refl)) | ((first | refine Br_intro ?_ ?_ | refine BrB_intro ?_ ?_) <;> intro hbr hbe <;> simp (maxSteps := 1000000) (disch := (first | omega | assumption | exact Fr.refl _)) only [hbe, sR, reduceIte, Nat.reduceEqDiff, Int.reduceLT, Int.reduceLE, Int.reduceEq, Int.reduceNeg, reduceCtorEq, Nat.reduceAdd, Int.reduceToNat, hs, v0, v3, v4] <;> clear hbe) | simp (maxSteps := 1000000) (disch := (first | omega | assumption | exact Fr.refl _)) only [sR, reduceIte, Nat.reduceEqDiff, Int.reduceLT, Int.reduceLE, Int.reduceEq, Int.reduceNeg, reduceCtorEq, Nat.reduceAdd, Int.reduceToNat, hs, v0, v3, v4])
          exact Fr.refl _
      · refine ⟨Fr.refl _, ?_⟩
        have hnr : nodeR t i (t.getD i nd0) = false := by unfold nodeR; rw [if_neg (by omega), if_neg (by omega), if_neg (by omega)]
        rw [hnr]
end

/-- No two texts side by side. -/
def NoTT (t : List ND) (i : Nat) : Prop := ∀ k, 0 < k → k < (t.getD i nd0).kids.length → ¬ ((t.getD ((t.getD i nd0).kids.getD (k - 1) 0).toNat nd0).kind = 2 ∧ (t.getD ((t.getD i nd0).kids.getD k 0).toNat nd0).kind = 2)
structure RightP (t : List ND) : Prop where
  sh : ShapedP t
  node : ∀ i, i < t.length → nodeR t i (t.getD i nd0) = true
  tt : ∀ i, i < t.length → NoTT t i
def KidsIn (t : List ND) : Prop := ∀ i, i < t.length → ∀ k, k < (t.getD i nd0).kids.length → ∃ z : Nat, (t.getD i nd0).kids.getD k 0 = (z : Int) ∧ z < t.length

theorem cnt_slot {t : List ND} : ∀ i, (∀ j, 0 < j → j < i → KidOK t j) → i ≤ t.length → ∀ u k, k < (cntAt t i).getD u 0 → ∃ j, 0 < j ∧ j < i ∧ (t.getD j nd0).up.toNat = u ∧ (cntAt t j).getD u 0 = k ∧ (t.getD u nd0).kids.getD k 0 = (j : Int)
  | 0, _, _, u, k, h => by
    have := cntAt_le t 0 u; omega
  | i + 1, hK, hi, u, k, h => by
    by_cases h0 : i = 0
    · subst h0
      have := cntAt_le t 0 u
      rw [cntAt, if_pos rfl] at h; omega
    · rw [cntAt, if_neg h0] at h
      have ih := cnt_slot i (fun j h1 h2 => hK j h1 (by omega)) (by omega) u k
      by_cases hu : u = (t.getD i nd0).up.toNat
      · subst hu
        by_cases hl : (t.getD i nd0).up.toNat < t.length
        · rw [List.getD_eq_getElem?_getD, List.getElem?_set_self (by rw [cntAt_len]; exact hl), Option.getD_some] at h
          by_cases hk : k = (cntAt t i).getD (t.getD i nd0).up.toNat 0
          · subst hk; exact ⟨i, by omega, by omega, rfl, rfl, (hK i (by omega) (by omega)).at'⟩
          · obtain ⟨j, h1, h2, h3⟩ := ih (by omega); exact ⟨j, h1, by omega, h3⟩
        · rw [List.getD_eq_getElem?_getD, List.getElem?_eq_none (by rw [List.length_set, cntAt_len]; omega)] at h; simp at h
      · rw [List.getD_eq_getElem?_getD, List.getElem?_set_ne (Ne.symm hu), ← List.getD_eq_getElem?_getD] at h
        obtain ⟨j, h1, h2, h3⟩ := ih h; exact ⟨j, h1, by omega, h3⟩
theorem ShapedP.kidsIn {t : List ND} (h : ShapedP t) : KidsIn t := by
  intro i hi k hk
  rw [← h.all i hi] at hk
  obtain ⟨j, h1, h2, _, _, h3⟩ := cnt_slot t.length h.kids (Nat.le_refl _) i k hk
  exact ⟨j, h3, h2⟩
theorem ShapedP.upsR {t : List ND} (h : ShapedP t) : UpsR t := by
  intro j h1 h2
  obtain ⟨u, h3, h4, _⟩ := (h.ups j h1 h2).up
  exact ⟨u, h3, h4⟩

section
variable {σ s0 : St} {t : List ND} {tv : AVal} {e0 : Env} {b i : Nat}
set_option maxHeartbeats 16000000 in
theorem right_tt (ht : TreeI σ tv t) (hf : Fr σ s0) (hkin : KidsIn t) (hkl : (t.getD i nd0).kids.length < 9223372036854775807) (hi : i < t.length) {f : Bool} {ty : TypeId} {ok : Bool}
    (hg : s0.get b = some (.cells f ty [.int .u8 ((t.getD i nd0).kind : Int), .str (t.getD i nd0).name, avO σ tv i, .str (t.getD i nd0).data, .int .i64 (t.getD i nd0).up, kvO σ tv i]))
    (v0 : V e0 0 = tv) (v3 : V e0 3 = .int .i64 (i : Int)) (v4 : V e0 4 = .ptr b 0) (v5 : V e0 5 = .bool ok) (v6 : V e0 6 = .int .i64 1) :
    W TS false (.loop L18_1) e0 s0 fun o e s => o = .exit 3 ∧ s = s0 ∧ V e 0 = tv ∧ V e 3 = .int .i64 (i : Int) ∧ ∃ ok', V e 5 = .bool ok' ∧ (ok' = true ↔ ok = true ∧ NoTT t i) := by
  refine W_loop (fun n e s => ∃ (k : Nat) (ok' : Bool), n = (t.getD i nd0).kids.length + 1 - k ∧ 0 < k ∧ k ≤ (t.getD i nd0).kids.length + 1 ∧ s = s0 ∧ V e 0 = tv ∧ V e 3 = .int .i64 (i : Int) ∧ V e 4 = .ptr b 0 ∧ V e 5 = .bool ok' ∧ V e 6 = .int .i64 (k : Int) ∧ (ok' = true → ok = true ∧ ∀ k', 0 < k' → k' < k → k' < (t.getD i nd0).kids.length → ¬ ((t.getD ((t.getD i nd0).kids.getD (k' - 1) 0).toNat nd0).kind = 2 ∧ (t.getD ((t.getD i nd0).kids.getD k' 0).toNat nd0).kind = 2)) ∧ (ok' = false → ¬ (ok = true ∧ NoTT t i))) _ ⟨1, ok, rfl, by omega, by omega, rfl, v0, v3, v4, v5, v6, fun h => ⟨h, fun k' h1 h2 => by omega⟩, fun h1 h2 => by rw [h1] at h2; exact absurd h2.1 (by decide)⟩ ?_
  clear v0 v3 v4 v5 v6
  rintro n e s ⟨k, ok', rfl, hk0, hkl2, rfl, v0, v3, v4, v5, v6, hT, hF⟩
  repeat' (first | ((first | apply RG_step | apply DG_step | apply DG_read); focus (intro hgd; have hgd2 := hgd; (try simp only [sB] at hgd); (try simp only [sP] at hgd2); simp (maxSteps := 1000000) (disch := (first | omega | assumption | exact Fr.refl _)) only [hgd, sR, reduceIte, Nat.reduceEqDiff, Int.reduceLT, Int.reduceLE, Int.reduceEq, Int.reduceNeg, reduceCtorEq, Nat.reduceAdd, Int.reduceToNat, L18_1, B18_1, v0, v3, v4, v5, v6, hg, ht.kl]; exact StepIs_refl)) | ((first | refine Br_intro ?_ ?_ | refine BrB_intro ?_ ?_) <;> intro hbr hbe <;> simp (maxSteps := 1000000) (disch := (first | omega | assumption | exact Fr.refl _)) only [hbe, sR, reduceIte, Nat.reduceEqDiff, Int.reduceLT, Int.reduceLE, Int.reduceEq, Int.reduceNeg, reduceCtorEq, Nat.reduceAdd, Int.reduceToNat, L18_1, B18_1, v0, v3, v4, v5, v6, hg, ht.kl] <;> clear hbe) | simp (maxSteps := 1000000) (disch := (first | omega | assumption | exact Fr.refl _)) only [sR, reduceIte, Nat.reduceEqDiff, Int.reduceLT, Int.reduceLE, Int.reduceEq, Int.reduceNeg, reduceCtorEq, Nat.reduceAdd, Int.reduceToNat, L18_1, B18_1, v0, v3, v4, v5, v6, hg, ht.kl])
  · simp only [Bool.and_eq_true, decide_eq_true_eq] at hbr
    obtain ⟨hlt, rfl⟩ := hbr
    obtain ⟨z1, hz1, hz1'⟩ := hkin i hi (k - 1) (by omega)
    obtain ⟨z2, hz2, hz2'⟩ := hkin i hi k (by omega)
    repeat' (first | ((first | apply RG_step | apply DG_step | apply DG_read); focus (intro hgd; have hgd2 := hgd; (try simp only [sB] at hgd); (try simp only [sP] at hgd2); simp (maxSteps := 1000000) (disch := (first | omega | assumption | exact Fr.refl _)) only [hgd, sR, reduceIte, Nat.reduceEqDiff, Int.reduceLT, Int.reduceLE, Int.reduceEq, Int.reduceNeg, reduceCtorEq, Nat.reduceAdd, Int.reduceToNat, B18_2, B18_3, v0, v3, v4, v5, v6, hg, ht.ixz, ht.n0, ht.a0, ht.kx, ht.kd, w_sub1, w_add1, hz1, hz2]; exact StepIs_refl)) | ((first | refine Br_intro ?_ ?_ | refine BrB_intro ?_ ?_) <;> intro hbr hbe <;> simp (maxSteps := 1000000) (disch := (first | omega | assumption | exact Fr.refl _)) only [hbe, sR, reduceIte, Nat.reduceEqDiff, Int.reduceLT, Int.reduceLE, Int.reduceEq, Int.reduceNeg, reduceCtorEq, Nat.reduceAdd, Int.reduceToNat, B18_2, B18_3, v0, v3, v4, v5, v6, hg, ht.ixz, ht.n0, ht.a0, ht.kx, ht.kd, w_sub1, w_add1, hz1, hz2] <;> clear hbe) | simp (maxSteps := 1000000) (disch := (first | omega | assumption | exact Fr.refl _)) only [sR, reduceIte, Nat.reduceEqDiff, Int.reduceLT, Int.reduceLE, Int.reduceEq, Int.reduceNeg, reduceCtorEq, Nat.reduceAdd, Int.reduceToNat, B18_2, B18_3, v0, v3, v4, v5, v6, hg, ht.ixz, ht.n0, ht.a0, ht.kx, ht.kd, w_sub1, w_add1, hz1, hz2])
    refine ⟨_, ?_, k + 1, !decide (((t.getD z1 nd0).kind : Int) = 2) || !decide (((t.getD z2 nd0).kind : Int) = 2), rfl, by omega, by omega, rfl, by simp only [sV, Nat.reduceEqDiff, reduceIte, Nat.reduceAdd, v0], by simp only [sV, Nat.reduceEqDiff, reduceIte, Nat.reduceAdd, v3], by simp only [sV, Nat.reduceEqDiff, reduceIte, Nat.reduceAdd, v4], by simp only [sV, Nat.reduceEqDiff, reduceIte, Nat.reduceAdd], by simp only [sV, Nat.reduceEqDiff, reduceIte, Nat.reduceAdd], fun h => ⟨(hT rfl).1, fun k' h1 h2 h3 => ?_⟩, fun h hh => ?_⟩
    · omega
    · by_cases hk : k' = k
      · subst hk
        rw [hz1, hz2, Int.toNat_natCast, Int.toNat_natCast]
        simp only [Bool.or_eq_true, Bool.not_eq_true', decide_eq_false_iff_not] at h
        omega
      · exact (hT rfl).2 k' h1 (by omega) h3
    · have := hh.2 k hk0 (by omega)
      rw [hz1, hz2, Int.toNat_natCast, Int.toNat_natCast] at this
      simp only [Bool.or_eq_false_iff, Bool.not_eq_false', decide_eq_true_eq] at h
      omega
  · refine ⟨ok', rfl, fun h => ?_, fun h => ?_⟩
    · rw [h, Bool.and_true, decide_eq_false_iff_not] at hbr
      exact ⟨(hT h).1, fun k' h1 h2 => (hT h).2 k' h1 (by omega) h2⟩
    · cases hok : ok' with
      | true => rfl
      | false => exact absurd h (hF hok)
end

set_option maxHeartbeats 16000000 in
theorem rRight_ok' {σ : St} {t : List ND} {tv : AVal} (ht : TreeI σ tv t) (hwf : ∀ n ∈ t, NWF n) : CW TS false 18 [tv] σ fun v s => ∃ c : Int, v = .int .i64 c ∧ Fr σ s ∧ ((c = 0 ∧ RightP t) ∨ (c = 53 ∧ ¬ RightP t)) := by
  refine CW_of fn18 rfl ?_
  repeat' (first | ((first | apply RG_step | apply DG_step | apply DG_read); focus (intro hgd; have hgd2 := hgd; (try simp only [sB] at hgd); (try simp only [sP] at hgd2); simp (maxSteps := 1000000) (disch := (first | omega | assumption | exact Fr.refl _)) only [hgd, sR, reduceIte, Nat.reduceEqDiff, Int.reduceLT, Int.reduceLE, Int.reduceEq, Int.reduceNeg, reduceCtorEq, Nat.reduceAdd, Int.reduceToNat, c18, B18_12]; exact StepIs_refl)) | ((first | refine Br_intro ?_ ?_ | refine BrB_intro ?_ ?_) <;> intro hbr hbe <;> simp (maxSteps := 1000000) (disch := (first | omega | assumption | exact Fr.refl _)) only [hbe, sR, reduceIte, Nat.reduceEqDiff, Int.reduceLT, Int.reduceLE, Int.reduceEq, Int.reduceNeg, reduceCtorEq, Nat.reduceAdd, Int.reduceToNat, c18, B18_12] <;> clear hbe) | simp (maxSteps := 1000000) (disch := (first | omega | assumption | exact Fr.refl _)) only [sR, reduceIte, Nat.reduceEqDiff, Int.reduceLT, Int.reduceLE, Int.reduceEq, Int.reduceNeg, reduceCtorEq, Nat.reduceAdd, Int.reduceToNat, c18, B18_12])
  refine Bd_call (shaped_ok ht) ?_
  rintro _ s ⟨bS, rfl, hb, hf⟩
  repeat' (first | ((first | apply RG_step | apply DG_step | apply DG_read); focus (intro hgd; have hgd2 := hgd; (try simp only [sB] at hgd); (try simp only [sP] at hgd2); simp (maxSteps := 1000000) (disch := (first | omega | assumption | exact Fr.refl _)) only [hgd, sR, reduceIte, Nat.reduceEqDiff, Int.reduceLT, Int.reduceLE, Int.reduceEq, Int.reduceNeg, reduceCtorEq, Nat.reduceAdd, Int.reduceToNat]; exact StepIs_refl)) | ((first | refine Br_intro ?_ ?_ | refine BrB_intro ?_ ?_) <;> intro hbr hbe <;> simp (maxSteps := 1000000) (disch := (first | omega | assumption | exact Fr.refl _)) only [hbe, sR, reduceIte, Nat.reduceEqDiff, Int.reduceLT, Int.reduceLE, Int.reduceEq, Int.reduceNeg, reduceCtorEq, Nat.reduceAdd, Int.reduceToNat] <;> clear hbe) | simp (maxSteps := 1000000) (disch := (first | omega | assumption | exact Fr.refl _)) only [sR, reduceIte, Nat.reduceEqDiff, Int.reduceLT, Int.reduceLE, Int.reduceEq, Int.reduceNeg, reduceCtorEq, Nat.reduceAdd, Int.reduceToNat])
  · rw [hbr] at hb
    have hS := hb.1 rfl
    have hN : t.length ≤ 16384 := by have := hS.head; rw [headS_eq] at this; simp only [Bool.not_eq_true', Bool.or_eq_false_iff, decide_eq_false_iff_not] at this; omega
    have hk0 : (t.getD 0 nd0).kind = 0 := by have := hS.head; rw [headS_eq] at this; simp only [Bool.not_eq_true', Bool.not_eq_false', decide_eq_true_eq, Bool.or_eq_false_iff, decide_eq_false_iff_not] at this; omega
    refine W_loop (fun n e s => ∃ i : Nat, i + n = t.length ∧ Fr σ s ∧ V e 0 = tv ∧ V e 3 = .int .i64 (i : Int) ∧ (∀ j, j < i → nodeR t j (t.getD j nd0) = true ∧ NoTT t j)) t.length ⟨0, by omega, hf, by simp only [sV, Nat.reduceEqDiff, reduceIte, Nat.reduceAdd], by simp only [sV, Nat.reduceEqDiff, reduceIte, Nat.reduceAdd]; rfl, fun j h1 => by omega⟩ ?_
    clear hf hbr
    rintro n e s ⟨i, hin, hf, v0, v3, hA⟩
    repeat' (first | ((first | apply RG_step | apply DG_step | apply DG_read); focus (intro hgd; have hgd2 := hgd; (try simp only [sB] at hgd); (try simp only [sP] at hgd2); simp (maxSteps := 1000000) (disch := (first | omega | assumption | exact Fr.refl _)) only [hgd, sR, reduceIte, Nat.reduceEqDiff, Int.reduceLT, Int.reduceLE, Int.reduceEq, Int.reduceNeg, reduceCtorEq, Nat.reduceAdd, Int.reduceToNat, L18_2, B18_4, B18_5, v0, v3, ht.len, ht.ixz, ht.nn]; exact StepIs_refl)) | ((first | refine Br_intro ?_ ?_ | refine BrB_intro ?_ ?_) <;> intro hbr hbe <;> simp (maxSteps := 1000000) (disch := (first | omega | assumption | exact Fr.refl _)) only [hbe, sR, reduceIte, Nat.reduceEqDiff, Int.reduceLT, Int.reduceLE, Int.reduceEq, Int.reduceNeg, reduceCtorEq, Nat.reduceAdd, Int.reduceToNat, L18_2, B18_4, B18_5, v0, v3, ht.len, ht.ixz, ht.nn] <;> clear hbe) | simp (maxSteps := 1000000) (disch := (first | omega | assumption | exact Fr.refl _)) only [sR, reduceIte, Nat.reduceEqDiff, Int.reduceLT, Int.reduceLE, Int.reduceEq, Int.reduceNeg, reduceCtorEq, Nat.reduceAdd, Int.reduceToNat, L18_2, B18_4, B18_5, v0, v3, ht.len, ht.ixz, ht.nn])
    · have hi : i < t.length := by omega
      repeat' (first | ((first | apply RG_step | apply DG_step | apply DG_read); focus (intro hgd; have hgd2 := hgd; (try simp only [sB] at hgd); (try simp only [sP] at hgd2); simp (maxSteps := 1000000) (disch := (first | omega | assumption | exact Fr.refl _)) only [hgd, sR, reduceIte, Nat.reduceEqDiff, Int.reduceLT, Int.reduceLE, Int.reduceEq, Int.reduceNeg, reduceCtorEq, Nat.reduceAdd, Int.reduceToNat, B18_10, B18_5, v0, v3, ht.len, ht.ixz, ht.nn, ht.ao, ht.ko]; exact StepIs_refl)) | ((first | refine Br_intro ?_ ?_ | refine BrB_intro ?_ ?_) <;> intro hbr hbe <;> simp (maxSteps := 1000000) (disch := (first | omega | assumption | exact Fr.refl _)) only [hbe, sR, reduceIte, Nat.reduceEqDiff, Int.reduceLT, Int.reduceLE, Int.reduceEq, Int.reduceNeg, reduceCtorEq, Nat.reduceAdd, Int.reduceToNat, B18_10, B18_5, v0, v3, ht.len, ht.ixz, ht.nn, ht.ao, ht.ko] <;> clear hbe) | simp (maxSteps := 1000000) (disch := (first | omega | assumption | exact Fr.refl _)) only [sR, reduceIte, Nat.reduceEqDiff, Int.reduceLT, Int.reduceLE, Int.reduceEq, Int.reduceNeg, reduceCtorEq, Nat.reduceAdd, Int.reduceToNat, B18_10, B18_5, v0, v3, ht.len, ht.ixz, ht.nn, ht.ao, ht.ko])
      generalize hs2 : St.put (St.new s _) _ _ = s2
      have hf2 : Fr σ s2 := by rw [← hs2]; exact (hf.news _).put hf.next _
      have hg2 : s2.get s.next = some (.cells true 36 [.int .u8 ((t.getD i nd0).kind : Int), .str (t.getD i nd0).name, avO σ tv i, .str (t.getD i nd0).data, .int .i64 (t.getD i nd0).up, kvO σ tv i]) := by rw [← hs2, St.get_put_same]
      have hb2 : s.next < s2.next := by rw [← hs2]; exact Nat.lt_succ_self _
      repeat' (first | ((first | apply RG_step | apply DG_step | apply DG_read); focus (intro hgd; have hgd2 := hgd; (try simp only [sB] at hgd); (try simp only [sP] at hgd2); simp (maxSteps := 1000000) (disch := (first | omega | assumption | exact Fr.refl _)) only [hgd, sR, reduceIte, Nat.reduceEqDiff, Int.reduceLT, Int.reduceLE, Int.reduceEq, Int.reduceNeg, reduceCtorEq, Nat.reduceAdd, Int.reduceToNat, hg2]; exact StepIs_refl)) | ((first | refine Br_intro ?_ ?_ | refine BrB_intro ?_ ?_) <;> intro hbr hbe <;> simp (maxSteps := 1000000) (disch := (first | omega | assumption | exact Fr.refl _)) only [hbe, sR, reduceIte, Nat.reduceEqDiff, Int.reduceLT, Int.reduceLE, Int.reduceEq, Int.reduceNeg, reduceCtorEq, Nat.reduceAdd, Int.reduceToNat, hg2] <;> clear hbe) | simp (maxSteps := 1000000) (disch := (first | omega | assumption | exact Fr.refl _)) only [sR, reduceIte, Nat.reduceEqDiff, Int.reduceLT, Int.reduceLE, Int.reduceEq, Int.reduceNeg, reduceCtorEq, Nat.reduceAdd, Int.reduceToNat, hg2])
      have hi1 : (t.getD i nd0).kind = 1 → 0 < i := by
        intro h1; rcases Nat.eq_zero_or_pos i with h | h
        · subst h; omega
        · exact h
      have hkl := (hwf t[i] (List.getElem_mem _)).klen
      rw [← getD_lt hi nd0] at hkl
      refine W_mono (right_sw ht hf2 hwf hS.upsR hN hi hi1 hg2 hb2 (by simp only [sV, Nat.reduceEqDiff, reduceIte, Nat.reduceAdd, v0]) (by simp only [sV, Nat.reduceEqDiff, reduceIte, Nat.reduceAdd, v3]) (by simp only [sV, Nat.reduceEqDiff, reduceIte, Nat.reduceAdd]) (by simp only [sV, Nat.reduceEqDiff, reduceIte, Nat.reduceAdd])) ?_
      rintro o e s3 ⟨rfl, hf3, v0, v3, v4, v5⟩
      repeat' (first | ((first | apply RG_step | apply DG_step | apply DG_read); focus (intro hgd; have hgd2 := hgd; (try simp only [sB] at hgd); (try simp only [sP] at hgd2); simp (maxSteps := 1000000) (disch := (first | omega | assumption | exact Fr.refl _)) only [hgd, sR, reduceIte, Nat.reduceEqDiff, Int.reduceLT, Int.reduceLE, Int.reduceEq, Int.reduceNeg, reduceCtorEq, Nat.reduceAdd, Int.reduceToNat]; exact StepIs_refl)) | ((first | refine Br_intro ?_ ?_ | refine BrB_intro ?_ ?_) <;> intro hbr hbe <;> simp (maxSteps := 1000000) (disch := (first | omega | assumption | exact Fr.refl _)) only [hbe, sR, reduceIte, Nat.reduceEqDiff, Int.reduceLT, Int.reduceLE, Int.reduceEq, Int.reduceNeg, reduceCtorEq, Nat.reduceAdd, Int.reduceToNat] <;> clear hbe) | simp (maxSteps := 1000000) (disch := (first | omega | assumption | exact Fr.refl _)) only [sR, reduceIte, Nat.reduceEqDiff, Int.reduceLT, Int.reduceLE, Int.reduceEq, Int.reduceNeg, reduceCtorEq, Nat.reduceAdd, Int.reduceToNat])
      have hg3 := hg2
      rw [← hf3.get _ hb2] at hg3
      have hl := hS.kidsIn i hi
      have hkl2 : (t.getD i nd0).kids.length ≤ t.length := by
        rw [← hS.all i hi]; exact cntAt_le t t.length i
      refine W_mono (right_tt (ok := nodeR t i (t.getD i nd0)) ht (hf2.trans hf3) hS.kidsIn (by omega) hi hg3 (by simp only [sV, Nat.reduceEqDiff, reduceIte, Nat.reduceAdd, v0]) (by simp only [sV, Nat.reduceEqDiff, reduceIte, Nat.reduceAdd, v3]) (by simp only [sV, Nat.reduceEqDiff, reduceIte, Nat.reduceAdd, v4]) (by simp only [sV, Nat.reduceEqDiff, reduceIte, Nat.reduceAdd, v5]) (by simp only [sV, Nat.reduceEqDiff, reduceIte, Nat.reduceAdd])) ?_
      rintro o e s4 ⟨rfl, rfl, v0, v3, ok', v5, hok⟩
      repeat' (first | ((first | apply RG_step | apply DG_step | apply DG_read); focus (intro hgd; have hgd2 := hgd; (try simp only [sB] at hgd); (try simp only [sP] at hgd2); simp (maxSteps := 1000000) (disch := (first | omega | assumption | exact Fr.refl _)) only [hgd, sR, reduceIte, Nat.reduceEqDiff, Int.reduceLT, Int.reduceLE, Int.reduceEq, Int.reduceNeg, reduceCtorEq, Nat.reduceAdd, Int.reduceToNat, B18_11, v0, v3, v5, w_add1]; exact StepIs_refl)) | ((first | refine Br_intro ?_ ?_ | refine BrB_intro ?_ ?_) <;> intro hbr hbe <;> simp (maxSteps := 1000000) (disch := (first | omega | assumption | exact Fr.refl _)) only [hbe, sR, reduceIte, Nat.reduceEqDiff, Int.reduceLT, Int.reduceLE, Int.reduceEq, Int.reduceNeg, reduceCtorEq, Nat.reduceAdd, Int.reduceToNat, B18_11, v0, v3, v5, w_add1] <;> clear hbe) | simp (maxSteps := 1000000) (disch := (first | omega | assumption | exact Fr.refl _)) only [sR, reduceIte, Nat.reduceEqDiff, Int.reduceLT, Int.reduceLE, Int.reduceEq, Int.reduceNeg, reduceCtorEq, Nat.reduceAdd, Int.reduceToNat, B18_11, v0, v3, v5, w_add1])
      · rw [hbr] at hok
        have hok := hok.1 rfl
        refine ⟨n - 1, by omega, i + 1, by omega, hf2.trans hf3, by simp only [sV, Nat.reduceEqDiff, reduceIte, Nat.reduceAdd, v0], by simp only [sV, Nat.reduceEqDiff, reduceIte, Nat.reduceAdd], fun j hj => ?_⟩
        by_cases h : j = i
        · subst h; exact hok
        · exact hA j (by omega)
      · refine ⟨53, rfl, hf2.trans hf3, .inr ⟨rfl, fun h => ?_⟩⟩
        have := hok.2 ⟨h.node i hi, h.tt i hi⟩
        rw [hbr] at this; exact absurd this (by decide)
    · exact ⟨0, rfl, hf, .inl ⟨rfl, hS, fun j hj => (hA j (by omega)).1, fun j hj => (hA j (by omega)).2⟩⟩
  · exact ⟨53, rfl, hf, .inr ⟨rfl, fun h => by have := hb.2 h.sh; rw [hbr] at this; exact absurd this (by decide)⟩⟩
end Go.Ab.Dirs
end

set_option maxRecDepth 10000
noncomputable section
namespace Go.Ab.Dirs
open Go Go.Ab

/-- Is a node an element of a right tree? -/
def elemS (t : List ND) (i : Int) : Bool := decide (0 < i) && (decide (i < (t.length : Int)) && (decide ((t.getD i.toNat dN).kind = 1) && rightS t))

theorem element_ok {σ : St} {t : List ND} {tv : AVal} (ht : TreeI σ tv t) (hwf : ∀ n ∈ t, NWF n) (i : Int) :
    ∃ σ', Fr σ σ' ∧ Cw TS false 27 [tv, .int .i64 i] σ = some (.bool (elemS t i), σ') := by
  have hl := ht.len
  rw [Cw_of fn27 false _ σ rfl]
  by_cases c1 : 0 < i
  · by_cases c2 : i < (t.length : Int)
    · obtain ⟨k, rfl⟩ : ∃ k : Nat, i = (k : Int) := ⟨i.toNat, by omega⟩
      have hk : k < t.length := by omega
      obtain ⟨av, kv, x1, x2⟩ := ht.get hk
      have x1 := x1 .i64
      by_cases c3 : (t[k].kind : Int) = 1
      · obtain ⟨σ', hf, hR⟩ := Right_ok ht hwf
        have d3 : decide ((t.getD ((k : Int)).toNat dN).kind = 1) = true := by rw [Int.toNat_natCast, getD_at hk]; simp; omega
        have c3' := eq_true c3
        cases hr : rightS t with
        | true =>
          rw [hr, if_pos rfl] at hR
          have he : elemS t (k : Int) = true := by unfold elemS; rw [d3, hr]; simp [c1, c2]; omega
          simp only [c27, sA, reduceIte, Nat.reduceEqDiff, Int.reduceLT, Int.reduceLE, Int.reduceEq, Int.reduceNeg, reduceCtorEq, Nat.reduceAdd, opIaSl_s, opFieldAddr_s, opLoad_s, hl, c1, c2, x1, x2.f0, x2.l0, c3', opCall, argsOf, hR, he]
          exact ⟨_, hf, rfl⟩
        | false =>
          rw [hr, if_neg (by decide)] at hR
          have he : elemS t (k : Int) = false := by unfold elemS; rw [hr]; simp
          simp only [c27, sA, reduceIte, Nat.reduceEqDiff, Int.reduceLT, Int.reduceLE, Int.reduceEq, Int.reduceNeg, reduceCtorEq, Nat.reduceAdd, opIaSl_s, opFieldAddr_s, opLoad_s, hl, c1, c2, x1, x2.f0, x2.l0, c3', opCall, argsOf, hR, he]
          exact ⟨_, hf, rfl⟩
      · have d3 : decide ((t.getD ((k : Int)).toNat dN).kind = 1) = false := by rw [Int.toNat_natCast, getD_at hk]; simp; omega
        have he : elemS t (k : Int) = false := by unfold elemS; rw [d3]; simp
        simp only [c27, sA, reduceIte, Nat.reduceEqDiff, Int.reduceLT, Int.reduceLE, Int.reduceEq, Int.reduceNeg, reduceCtorEq, Nat.reduceAdd, opIaSl_s, opFieldAddr_s, opLoad_s, hl, c1, c2, x1, x2.f0, x2.l0, c3, he]
        exact ⟨_, Fr.refl _, rfl⟩
    · have he : elemS t i = false := by unfold elemS; rw [decide_eq_false c2]; simp
      simp only [c27, sA, reduceIte, Nat.reduceEqDiff, Int.reduceLT, Int.reduceLE, Int.reduceEq, Int.reduceNeg, reduceCtorEq, Nat.reduceAdd, hl, c1, c2, he]
      exact ⟨_, Fr.refl _, rfl⟩
  · have he : elemS t i = false := by unfold elemS; rw [decide_eq_false c1]; simp
    simp only [c27, sA, reduceIte, Nat.reduceEqDiff, Int.reduceLT, Int.reduceLE, Int.reduceEq, Int.reduceNeg, reduceCtorEq, Nat.reduceAdd, c1, he]
    exact ⟨_, Fr.refl _, rfl⟩

/-! A right tree's children. -/
structure InvF (t : List ND) (i : Nat) (path cnt : List Nat) : Prop where
  pos : ∀ p ∈ path, p < i ∨ p = 0
  clen : cnt.length = t.length
  cnt : ∀ u, u < t.length → ∀ j, j < cnt.getD u 0 → ∃ z : Nat, (t.getD u dN).kids.getD j 0 = (z : Int) ∧ u < z ∧ z < i

theorem InvF.step {t : List ND} {i : Nat} {path cnt : List Nat} (h : InvF t i path cnt) (hi : i < t.length) {p c : List Nat} (hs : stepR t i path cnt = some (p, c)) :
    InvF t (i + 1) p c ∧ ∃ q, fitsS t q i (t.getD i dN) = true ∧ (i ≠ 0 → q = popS (t.getD i dN).up path ∧ q ≠ []) := by
  unfold stepR at hs
  split at hs
  · split at hs
    · rename_i h0 hf
      cases hs
      refine ⟨⟨fun p hp => ?_, h.clen, fun u hu j hj => ?_⟩, _, hf, fun hh => absurd h0 hh⟩
      · rcases h.pos p hp with h1 | h1
        · left; omega
        · right; exact h1
      · obtain ⟨z, h1, h2, h3⟩ := h.cnt u hu j hj
        exact ⟨z, h1, h2, by omega⟩
    · simp at hs
  · split at hs
    · rename_i h0 hc
      split at hs
      · rename_i hf
        cases hs
        obtain ⟨c1, c2, c3⟩ := hc
        refine ⟨?_, _, hf, fun _ => ⟨rfl, c1⟩⟩
        obtain ⟨l, q, e1, e2⟩ := popS_last _ _ c1
        obtain ⟨k, hk⟩ := popS_take (t.getD i dN).up path
        have hqi : (t.getD i dN).up.toNat < i := by
          have : q ∈ popS (t.getD i dN).up path := by rw [e1]; simp
          rw [hk] at this
          rcases h.pos q (List.mem_of_mem_take this) with h1 | h1 <;> omega
        refine ⟨fun p hp => ?_, by simp [h.clen], fun u hu j hj => ?_⟩
        · rw [List.mem_append] at hp
          rcases hp with hp | hp
          · rw [hk] at hp
            rcases h.pos p (List.mem_of_mem_take hp) with h1 | h1
            · left; omega
            · right; exact h1
          · simp at hp; left; omega
        · by_cases e : u = (t.getD i dN).up.toNat
          · subst e
            have hg : (cnt.set (t.getD i dN).up.toNat (cnt.getD (t.getD i dN).up.toNat 0 + 1)).getD (t.getD i dN).up.toNat 0 = cnt.getD (t.getD i dN).up.toNat 0 + 1 := by
              rw [List.getD_eq_getElem?_getD, List.getElem?_set_self (by rw [h.clen]; exact hu)]; rfl
            rw [hg] at hj
            by_cases ej : j = cnt.getD (t.getD i dN).up.toNat 0
            · subst ej; exact ⟨i, c3, hqi, by omega⟩
            · obtain ⟨z, h1, h2, h3⟩ := h.cnt _ hu j (by omega)
              exact ⟨z, h1, h2, by omega⟩
          · have hg : (cnt.set (t.getD i dN).up.toNat (cnt.getD (t.getD i dN).up.toNat 0 + 1)).getD u 0 = cnt.getD u 0 := by
              rw [List.getD_eq_getElem?_getD, List.getElem?_set_ne (Ne.symm e), ← List.getD_eq_getElem?_getD]
            rw [hg] at hj
            obtain ⟨z, h1, h2, h3⟩ := h.cnt u hu j hj
            exact ⟨z, h1, h2, by omega⟩
      · simp at hs
    · simp at hs

theorem rightG_facts (t : List ND) : ∀ (m i : Nat) (path cnt cnt' : List Nat), i + m = t.length → InvF t i path cnt → rightG t m i path cnt = some cnt' →
    (∃ path', InvF t t.length path' cnt') ∧ ∀ j, i ≤ j → j < t.length → ∃ q, fitsS t q j (t.getD j dN) = true
  | 0, i, path, cnt, cnt', hm, hv, hg => by
    simp only [rightG, Option.some.injEq] at hg
    subst hg
    have : i = t.length := by omega
    subst this
    exact ⟨⟨path, hv⟩, fun j h1 h2 => by omega⟩
  | m + 1, i, path, cnt, cnt', hm, hv, hg => by
    rw [rightG] at hg
    cases hs : stepR t i path cnt with
    | none => rw [hs] at hg; simp at hg
    | some pc =>
      obtain ⟨p, c⟩ := pc
      rw [hs] at hg
      obtain ⟨hv', q, hq, -⟩ := hv.step (by omega) hs
      obtain ⟨h1, h2⟩ := rightG_facts t m (i + 1) p c cnt' (by omega) hv' hg
      refine ⟨h1, fun j hj1 hj2 => ?_⟩
      by_cases e : j = i
      · subst e; exact ⟨q, hq⟩
      · exact h2 j (by omega) hj2

theorem finS_all (t : List ND) (cnt : List Nat) : ∀ (m i : Nat), finS t cnt m i = true → ∀ j, i ≤ j → j < i + m → cnt.getD j 0 = (t.getD j dN).kids.length
  | 0, i, _, j, h1, h2 => by omega
  | m + 1, i, h, j, h1, h2 => by
    rw [finS, Bool.and_eq_true, decide_eq_true_eq] at h
    by_cases e : j = i
    · subst e; exact h.1
    · exact finS_all t cnt m (i + 1) h.2 j (by omega) (by omega)

theorem right_facts {t : List ND} (h : rightS t = true) : KidsT t ∧ (∀ j, j < t.length → ∃ q, fitsS t q j (t.getD j dN) = true) ∧ 0 < t.length ∧ t.length ≤ 16384 := by
  unfold rightS at h
  rw [Bool.and_eq_true] at h
  obtain ⟨h1, h2⟩ := h
  have hlen : 0 < t.length ∧ t.length ≤ 16384 := by
    unfold headS at h1
    simp only [Bool.and_eq_true, decide_eq_true_eq] at h1
    omega
  cases hg : rightG t t.length 0 [0] (List.replicate t.length 0) with
  | none => rw [hg] at h2; simp at h2
  | some cnt =>
    rw [hg] at h2
    simp only at h2
    have hv : InvF t 0 [0] (List.replicate t.length 0) := by
      refine ⟨fun p hp => by simp at hp; exact .inr hp, by simp, fun u hu j hj => ?_⟩
      have : (List.replicate t.length 0).getD u 0 = 0 := by rw [getD_at (by simpa using hu)]; simp
      omega
    obtain ⟨⟨path', hv'⟩, hq⟩ := rightG_facts t t.length 0 [0] _ cnt (by omega) hv hg
    refine ⟨?_, fun j hj => hq j (Nat.zero_le _) hj, hlen.1, hlen.2⟩
    intro i hi z hz
    obtain ⟨j, hj, rfl⟩ := List.getElem_of_mem hz
    have hf := finS_all t cnt t.length 0 h2 i (Nat.zero_le _) (by omega)
    obtain ⟨k, k1, k2, k3⟩ := hv'.cnt i hi j (by omega)
    rw [getD_at hj] at k1
    exact ⟨k, k1, k2, k3⟩

theorem elem_facts {t : List ND} {i : Int} (h : elemS t i = true) : ∃ k : Nat, i = (k : Int) ∧ 0 < k ∧ k < t.length ∧ (t.getD k dN).kind = 1 ∧ rightS t = true := by
  unfold elemS at h
  simp only [Bool.and_eq_true, decide_eq_true_eq] at h
  obtain ⟨h1, h2, h3, h4⟩ := h
  exact ⟨i.toNat, by omega, by omega, by omega, h3, h4⟩

/-- State, Scan as they are told. -/
def StateS (t : List ND) (i : Int) : Nat := if elemS t i then stateS (t.getD i.toNat dN).attrs else 0
def ScanS (t : List ND) (i : Int) : Option Nat := if elemS t i then scanS t i.toNat else none

theorem State_ok {σ : St} {t : List ND} {tv : AVal} (ht : TreeI σ tv t) (hwf : ∀ n ∈ t, NWF n) (i : Int) :
    ∃ σ', Fr σ σ' ∧ Cw TS false 15 [tv, .int .i64 i] σ = some (.int .u8 (StateS t i : Int), σ') := by
  obtain ⟨σ1, hf1, hE⟩ := element_ok ht hwf i
  rw [Cw_of fn15 false _ σ rfl]
  cases he : elemS t i with
  | false =>
    rw [he] at hE
    have hs : StateS t i = 0 := by unfold StateS; rw [he]; rfl
    simp only [c15, sA, reduceIte, Nat.reduceEqDiff, Int.reduceLT, Int.reduceLE, Int.reduceEq, Int.reduceNeg, reduceCtorEq, Nat.reduceAdd, opCall, argsOf, hE, hs]
    exact ⟨_, hf1, rfl⟩
  | true =>
    rw [he] at hE
    obtain ⟨k, rfl, hk0, hk, -, -⟩ := elem_facts he
    obtain ⟨av, kv, x1, x2⟩ := (ht.fr hf1).get hk
    have x1 := x1 .i64
    have hn := hwf t[k] (List.getElem_mem _)
    obtain ⟨σ2, hf2, hs⟩ := state_ok (a := .int .u8 (t[k].kind : Int)) (b := .str t[k].name) (c := .str t[k].data) (d := .int .i64 t[k].up) (f := kv) t[k].attrs σ1 hn.alen hn.attrs x2.attrs
    have hS : StateS t (k : Int) = stateS t[k].attrs := by unfold StateS; rw [he, if_pos rfl, Int.toNat_natCast, getD_at hk]
    simp only [c15, sA, reduceIte, Nat.reduceEqDiff, Int.reduceLT, Int.reduceLE, Int.reduceEq, Int.reduceNeg, reduceCtorEq, Nat.reduceAdd, opIaSl_s, opLoad_s, opCall, argsOf, hE, x1, x2.ld, hs, hS]
    exact ⟨_, hf1.trans hf2, rfl⟩

theorem Scan_ok {σ : St} {t : List ND} {tv : AVal} (ht : TreeI σ tv t) (hwf : ∀ n ∈ t, NWF n) (i : Int) :
    ∃ σ', Fr σ σ' ∧ Cw TS false 16 [tv, .int .i64 i] σ = some (wayV (ScanS t i), σ') := by
  obtain ⟨σ1, hf1, hE⟩ := element_ok ht hwf i
  rw [Cw_of fn16 false _ σ rfl]
  cases he : elemS t i with
  | false =>
    rw [he] at hE
    have hs : ScanS t i = none := by unfold ScanS; rw [he]; rfl
    simp only [c16, sA, reduceIte, Nat.reduceEqDiff, Int.reduceLT, Int.reduceLE, Int.reduceEq, Int.reduceNeg, reduceCtorEq, Nat.reduceAdd, opCall, argsOf, hE, hs]
    exact ⟨_, hf1, rfl⟩
  | true =>
    rw [he] at hE
    obtain ⟨k, rfl, hk0, hk, -, hr⟩ := elem_facts he
    obtain ⟨σ2, hf2, hs⟩ := scan_ok (ht.fr hf1) hwf (right_facts hr).1 hk
    have hS : ScanS t (k : Int) = scanS t k := by unfold ScanS; rw [he, if_pos rfl, Int.toNat_natCast]
    rw [hS]
    simp only [c16, sA, reduceIte, Nat.reduceEqDiff, Int.reduceLT, Int.reduceLE, Int.reduceEq, Int.reduceNeg, reduceCtorEq, Nat.reduceAdd, opCall, argsOf, hE, hs, wayV, opExtract, dropX_zero, dropX_1]
    exact ⟨_, hf1.trans hf2, rfl⟩
end Go.Ab.Dirs
end

set_option maxRecDepth 100000
noncomputable section
namespace Go.Ab.Dirs
open Go Go.Ab

def UpB (t : List ND) (i : Nat) : Prop := ∀ j, 0 < j → j < i → ∃ u : Nat, (t.getD j nd0).up = (u : Int) ∧ u < j
/-- A node and those above it. -/
def ancR (t : List ND) : Nat → Nat → List Nat
  | 0, k => [k]
  | f + 1, k => if k = 0 then [0] else k :: ancR t f (t.getD k nd0).up.toNat
def anc (t : List ND) (k : Nat) : List Nat := ancR t k k
theorem ancR_fuel {t : List ND} {i : Nat} (hU : UpB t i) : ∀ (k : Nat), k < i → ∀ f, k ≤ f → ancR t f k = anc t k := by
  intro k
  induction k using Nat.strongRecOn with
  | ind k ih =>
    intro hk f hf
    rcases Nat.eq_zero_or_pos k with h0 | h0
    · subst h0; cases f <;> simp [ancR, anc]
    · obtain ⟨u, hu, hlt⟩ := hU k h0 hk
      obtain ⟨f, rfl⟩ : ∃ g, f = g + 1 := ⟨f - 1, by omega⟩
      obtain ⟨m, rfl⟩ : ∃ m, k = m + 1 := ⟨k - 1, by omega⟩
      unfold anc
      rw [ancR, ancR, if_neg (by omega), if_neg (by omega), hu, Int.toNat_natCast, ih u hlt (by omega) f (by omega), ih u hlt (by omega) m (by omega)]
theorem anc_zero (t : List ND) : anc t 0 = [0] := rfl
theorem anc_pos {t : List ND} {i k u : Nat} (hU : UpB t i) (hk : k < i) (h0 : 0 < k) (hu : (t.getD k nd0).up = (u : Int)) (hlt : u < k) : anc t k = k :: anc t u := by
  obtain ⟨m, rfl⟩ : ∃ m, k = m + 1 := ⟨k - 1, by omega⟩
  unfold anc
  rw [ancR, if_neg (by omega), hu, Int.toNat_natCast, ancR_fuel hU u (by omega) m (by omega)]
  rfl
theorem anc_le {t : List ND} {i : Nat} (hU : UpB t i) : ∀ (k : Nat), k < i → ∀ x ∈ anc t k, x ≤ k := by
  intro k
  induction k using Nat.strongRecOn with
  | ind k ih =>
    intro hk x hx
    rcases Nat.eq_zero_or_pos k with h0 | h0
    · subst h0; rw [anc_zero] at hx; simp at hx; omega
    · obtain ⟨u, hu, hlt⟩ := hU k h0 hk
      rw [anc_pos hU hk h0 hu hlt] at hx
      rcases List.mem_cons.1 hx with h | h
      · omega
      · have := ih u hlt (by omega) x h; omega
theorem anc_drop {t : List ND} {i : Nat} (hU : UpB t i) (u : Nat) : ∀ (k : Nat), k < i → ∀ f, k < f →
    (u ∈ anc t k ∧ walkR t u f k = u ∧ (anc t k).dropWhile (fun p : Nat => decide (¬ (p : Int) = (u : Int))) = anc t u) ∨ (u ∉ anc t k ∧ walkR t u f k ≠ u ∧ (anc t k).dropWhile (fun p : Nat => decide (¬ (p : Int) = (u : Int))) = []) := by
  intro k
  induction k using Nat.strongRecOn with
  | ind k ih =>
    intro hk f hf
    obtain ⟨f, rfl⟩ : ∃ g, f = g + 1 := ⟨f - 1, by omega⟩
    rw [walkR]
    rcases Nat.eq_zero_or_pos k with h0 | h0
    · subst h0
      rw [anc_zero, if_neg (by omega)]
      by_cases hu : u = 0
      · subst hu; left; exact ⟨by simp, rfl, by rw [anc_zero]; simp⟩
      · right; refine ⟨by simp; omega, by omega, ?_⟩
        rw [List.dropWhile_cons, if_pos (by simp; omega)]; rfl
    · obtain ⟨u', hu', hlt⟩ := hU k h0 hk
      rw [anc_pos hU hk h0 hu' hlt]
      by_cases hku : k = u
      · subst hku; left
        refine ⟨by simp, by rw [if_neg (by omega)], ?_⟩
        rw [List.dropWhile_cons, if_neg (by simp), anc_pos hU hk h0 hu' hlt]
      · rw [if_pos ⟨hku, h0⟩, hu', Int.toNat_natCast, List.dropWhile_cons, if_pos (by simp; omega)]
        rcases ih u' hlt (by omega) f (by omega) with ⟨h1, h2, h3⟩ | ⟨h1, h2, h3⟩
        · left; exact ⟨by simp [h1], h2, h3⟩
        · right; exact ⟨by simp [h1]; omega, h2, h3⟩

def pathAt (t : List ND) : Nat → List Nat
  | 0 => [0]
  | i + 1 => if i = 0 then [0] else popS (t.getD i nd0).up (pathAt t i) ++ [i]
theorem pathAt_anc {t : List ND} : ∀ i, 0 < i → i ≤ t.length → (∀ j, 0 < j → j < i → OkU t j) → (pathAt t i).reverse = anc t (i - 1)
  | 0, h, _, _ => by omega
  | i + 1, _, hi, hO => by
    rw [pathAt]
    by_cases h0 : i = 0
    · subst h0; rfl
    · rw [if_neg h0, List.reverse_append, popS, List.reverse_reverse, pathAt_anc i (by omega) (by omega) fun j h1 h2 => hO j h1 (by omega)]
      have hU : UpB t (i + 1) := fun j h1 h2 => by obtain ⟨u, h3, h4, _⟩ := (hO j h1 h2).up; exact ⟨u, h3, h4⟩
      obtain ⟨u, hu, hlt, hB, hw⟩ := (hO i (by omega) (by omega)).up
      rw [hu]
      rcases anc_drop hU u (i - 1) (by omega) i (by omega) with ⟨h1, h2, h3⟩ | ⟨h1, h2, h3⟩
      · rw [h3, Nat.add_sub_cancel, anc_pos hU (by omega) (by omega) hu hlt]; rfl
      · exact absurd hw h2

structure StepOK (t : List ND) (j : Nat) : Prop where
  zero : j = 0 → fitsS t (pathAt t 0) 0 (t.getD 0 nd0) = true
  pop : j ≠ 0 → popS (t.getD j nd0).up (pathAt t j) ≠ []
  kid : j ≠ 0 → KidOK t j
  fits : j ≠ 0 → fitsS t (popS (t.getD j nd0).up (pathAt t j)) j (t.getD j nd0) = true
theorem stepR_iff {t : List ND} {i : Nat} {p c : List Nat} : stepR t i (pathAt t i) (cntAt t i) = some (p, c) ↔ StepOK t i ∧ p = pathAt t (i + 1) ∧ c = cntAt t (i + 1) := by
  unfold stepR
  rw [show dN = nd0 from rfl, pathAt, cntAt]
  by_cases h0 : i = 0
  · subst h0
    rw [if_pos rfl, if_pos rfl, if_pos rfl]
    by_cases hf : fitsS t (pathAt t 0) 0 (t.getD 0 nd0) = true
    · rw [if_pos hf]
      simp only [Option.some.injEq, Prod.mk.injEq]
      constructor
      · rintro ⟨rfl, rfl⟩; exact ⟨⟨fun _ => hf, fun h => absurd rfl h, fun h => absurd rfl h, fun h => absurd rfl h⟩, rfl, rfl⟩
      · rintro ⟨_, rfl, rfl⟩; exact ⟨rfl, rfl⟩
    · rw [if_neg hf]
      constructor
      · intro h; exact absurd h (by simp)
      · rintro ⟨h, _⟩; exact absurd (h.zero rfl) hf
  · rw [if_neg h0, if_neg h0, if_neg h0]
    split
    · rename_i hc
      split
      · rename_i hf
        simp only [Option.some.injEq, Prod.mk.injEq]
        constructor
        · rintro ⟨rfl, rfl⟩; exact ⟨⟨fun h => absurd h h0, fun _ => hc.1, fun _ => ⟨hc.2.1, hc.2.2⟩, fun _ => hf⟩, rfl, rfl⟩
        · rintro ⟨_, rfl, rfl⟩; exact ⟨rfl, rfl⟩
      · rename_i hf
        constructor
        · intro h; exact absurd h (by simp)
        · rintro ⟨h, _⟩; exact absurd (h.fits h0) hf
    · rename_i hc
      constructor
      · intro h; exact absurd h (by simp)
      · rintro ⟨h, _⟩; exact absurd ⟨h.pop h0, (h.kid h0).lt, (h.kid h0).at'⟩ hc
theorem rightG_iff {t : List ND} : ∀ (m i : Nat) (c : List Nat), rightG t m i (pathAt t i) (cntAt t i) = some c ↔ (∀ j, i ≤ j → j < i + m → StepOK t j) ∧ c = cntAt t (i + m)
  | 0, i, c => by
    rw [rightG]
    simp only [Option.some.injEq]
    exact ⟨fun h => ⟨fun j h1 h2 => by omega, h.symm⟩, fun h => h.2.symm⟩
  | m + 1, i, c => by
    rw [rightG]
    cases hs : stepR t i (pathAt t i) (cntAt t i) with
    | none =>
      constructor
      · intro h; exact absurd h (by simp)
      · rintro ⟨h, _⟩
        have := (stepR_iff (t := t) (i := i)).2 ⟨h i (Nat.le_refl _) (by omega), rfl, rfl⟩
        rw [hs] at this; exact absurd this (by simp)
    | some pc =>
      obtain ⟨p, q⟩ := pc
      obtain ⟨h1, rfl, rfl⟩ := stepR_iff.1 hs
      simp only
      rw [rightG_iff m (i + 1) c]
      constructor
      · rintro ⟨h2, rfl⟩
        refine ⟨fun j h3 h4 => ?_, by rw [show i + 1 + m = i + (m + 1) by omega]⟩
        by_cases h : j = i
        · subst h; exact h1
        · exact h2 j (by omega) (by omega)
      · rintro ⟨h2, rfl⟩
        exact ⟨fun j h3 h4 => h2 j (by omega) (by omega), by rw [show i + 1 + m = i + (m + 1) by omega]⟩
theorem finS_iff (t : List ND) (cnt : List Nat) : ∀ (m i : Nat), finS t cnt m i = true ↔ ∀ j, i ≤ j → j < i + m → cnt.getD j 0 = (t.getD j nd0).kids.length
  | 0, i => ⟨fun _ j h1 h2 => by omega, fun _ => rfl⟩
  | m + 1, i => by
    rw [finS, Bool.and_eq_true, decide_eq_true_eq, finS_iff t cnt m (i + 1)]
    constructor
    · rintro ⟨h1, h2⟩ j h3 h4
      by_cases h : j = i
      · subst h; exact h1
      · exact h2 j (by omega) (by omega)
    · exact fun h => ⟨h i (Nat.le_refl _) (by omega), fun j h1 h2 => h j (by omega) (by omega)⟩
theorem rightS_iff {t : List ND} : rightS t = true ↔ headS t = true ∧ (∀ j, j < t.length → StepOK t j) ∧ ∀ j, j < t.length → (cntAt t t.length).getD j 0 = (t.getD j nd0).kids.length := by
  unfold rightS
  rw [Bool.and_eq_true]
  have e : rightG t t.length 0 [0] (List.replicate t.length 0) = rightG t t.length 0 (pathAt t 0) (cntAt t 0) := rfl
  rw [e]
  cases hg : rightG t t.length 0 (pathAt t 0) (cntAt t 0) with
  | none =>
    constructor
    · rintro ⟨_, h⟩; exact absurd h (by simp)
    · rintro ⟨h1, h2, h3⟩
      have := (rightG_iff t.length 0 _).2 ⟨fun j _ h4 => h2 j (by omega), rfl⟩
      rw [hg] at this; exact absurd this (by simp)
  | some c =>
    obtain ⟨h1, rfl⟩ := (rightG_iff _ _ _).1 hg
    simp only
    rw [finS_iff]
    constructor
    · rintro ⟨h2, h3⟩; exact ⟨h2, fun j hj => h1 j (by omega) (by omega), fun j hj => by have := h3 j (by omega) (by omega); rwa [Nat.zero_add] at this⟩
    · rintro ⟨h2, h3, h4⟩; exact ⟨h2, fun j _ hj => by rw [Nat.zero_add]; exact h4 j (by omega)⟩
end Go.Ab.Dirs
end
