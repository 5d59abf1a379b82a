/- selvedgeref04.Small, selvedgeref10.State. -/
import Derived.Test.YthbanbnmomcohaaGreatDoorM30
import Derived.Test.YthbanbnmomcohaaGreatDoorM12
import Derived.KernelRfl
import Derived.Test.YthbanbnmomcohaaGreatDoorM19
import Derived.Test.YthbanbnmomcohaaGreatDoorM18
import Derived.Test.YthbanbnmomcohaaGreatDoorM29
set_option linter.all false
set_option linter.unusedSimpArgs false
set_option maxRecDepth 100000
noncomputable section
namespace Go.Ab.Dirs
open Go Go.Ab

def byteV (l : List Nat) : List AVal := l.map fun x : Nat => AVal.int .u8 (x : Int)
theorem bytesOf_V : ∀ {l : List Nat}, (∀ c ∈ l, c < 256) → bytesOfCells (byteV l) = some l
  | [], _ => rfl
  | a :: l, h => by
    have ih := bytesOf_V (l := l) fun c hc => h c (List.mem_cons_of_mem _ hc)
    have ha := h a List.mem_cons_self
    show (match bytesOfCells (byteV l) with | some r => some (((a : Int)).toNat % 256 :: r) | none => none) = _
    rw [ih]; simp only [Int.toNat_natCast]; rw [Nat.mod_eq_of_lt ha]
def strofS (σ : St) (v : AVal) : Option AVal := match v with
  | .str _ => none
  | v => match cellsIn σ 1 v with
    | some (_, cs) => (match bytesOfCells cs with | some l => some (.str l) | none => none)
    | none => none
theorem opStrOf_s {T : Tab} {x : Opd} {env : Env} {σ : St} : opStrOf T x env σ = (match strofS σ (x.ev T env) with | some v => some (v, σ) | none => none) := by
  unfold opStrOf strofS
  generalize x.ev T env = v
  cases v <;> try rfl
  all_goals
    simp only
    generalize cellsIn _ _ _ = o
    cases o with
    | none => rfl
    | some r => obtain ⟨n, cs⟩ := r; simp only; cases bytesOfCells cs <;> rfl
theorem SlI.strOf {σ : St} {v : AVal} {l : List Nat} {n : Nat} (h : SlI σ 1 v n (byteV l)) (hl : ∀ c ∈ l, c < 256) : strofS σ v = some (.str l) := by
  obtain ⟨h1, h2⟩ := h
  unfold lowV at h1
  unfold strofS
  split at h1
  · simp only [h2, bytesOf_V hl]
  · simp only [h2, bytesOf_V hl]
  · simp only [h2, bytesOf_V hl]
  · exact absurd h1 id
theorem low_lt {c : Nat} (h : c < 256) : low c < 256 := by unfold low; split <;> omega

set_option maxHeartbeats 8000000 in
theorem Small_ok {σ : St} {s : List Nat} (hs : SWF s) (hb : s.length < 1000000000) : CW TS false 35 [.str s] σ fun v s' => v = .str (s.map low) ∧ Fr σ s' := by
  refine CW_of fn35 rfl ?_
  repeat' (first | ((first | apply RG_step | apply DG_step | apply DG_read); focus (intro hgd; have hgd2 := hgd; (try simp only [sB] at hgd); (try simp only [sP] at hgd2); simp (maxSteps := 1000000) (disch := (first | omega | assumption | exact Fr.refl _)) only [hgd, sR, reduceIte, Nat.reduceEqDiff, Int.reduceLT, Int.reduceLE, Int.reduceEq, Int.reduceNeg, reduceCtorEq, Nat.reduceAdd, Int.reduceToNat, c35]; exact StepIs_refl)) | ((first | refine Br_intro ?_ ?_ | refine BrB_intro ?_ ?_) <;> intro hbr hbe <;> simp (maxSteps := 1000000) (disch := (first | omega | assumption | exact Fr.refl _)) only [hbe, sR, reduceIte, Nat.reduceEqDiff, Int.reduceLT, Int.reduceLE, Int.reduceEq, Int.reduceNeg, reduceCtorEq, Nat.reduceAdd, Int.reduceToNat, c35] <;> clear hbe) | simp (maxSteps := 1000000) (disch := (first | omega | assumption | exact Fr.refl _)) only [sR, reduceIte, Nat.reduceEqDiff, Int.reduceLT, Int.reduceLE, Int.reduceEq, Int.reduceNeg, reduceCtorEq, Nat.reduceAdd, Int.reduceToNat, c35])
  refine W_loop (fun n e s' => ∃ (i : Nat) (v : AVal), i + n = s.length ∧ Fr σ s' ∧ V e 0 = .str s ∧ V e 3 = v ∧ V e 4 = .int .i64 (i : Int) ∧ OwnV s' 5 v (byteV ((s.take i).map low)) σ.next) s.length ⟨0, .nils, by omega, Fr.refl _, by simp only [sV, Nat.reduceEqDiff, reduceIte, Nat.reduceAdd], by simp only [sV, Nat.reduceEqDiff, reduceIte, Nat.reduceAdd], by simp only [sV, Nat.reduceEqDiff, reduceIte, Nat.reduceAdd]; rfl, ⟨Nat.le_refl _, .inl ⟨rfl, rfl⟩⟩⟩ ?_
  rintro n e s' ⟨i, v, hin, hf, v0, v3, v4, hO⟩
  have key : i < s.length → ∀ c' : Nat, low (s.getD i 0) = c' → ∀ s2, s2 = s'.new (.cells true 5 [.int .u8 (c' : Int)]) → ∃ v2 s3, apS s2 5 1 1 v (.slice s'.next 0 1 1) = some (v2, s3) ∧ Fr σ s3 ∧ OwnV s3 5 v2 (byteV ((s.take (i + 1)).map low)) σ.next := by
    rintro hi c' rfl s2 rfl
    obtain ⟨v2, s3, h1, h2, h3, _⟩ := ap_v (bytes := 1) (hO.fr (Fr.new s' _)) (x := .int .u8 ((low (s.getD i 0) : Nat) : Int)) rfl (St.get_new_same _ _) (by simp [byteV]; omega)
    refine ⟨v2, s3, h1, h3 σ (hf.news _) (Nat.le_refl _), ?_⟩
    rw [List.take_succ_eq_append_getElem hi, List.map_append, byteV, List.map_append, ← getD_lt hi 0]
    exact h2
  have hc : i < s.length → s.getD i 0 < 256 := fun hi => by rw [getD_lt hi]; exact hs.1 _ (List.getElem_mem _)
  repeat' (first | ((first | apply RG_step | apply DG_step | apply DG_read); focus (intro hgd; have hgd2 := hgd; (try simp only [sB] at hgd); (try simp only [sP] at hgd2); simp (maxSteps := 1000000) (disch := (first | omega | assumption | exact Fr.refl _)) only [hgd, sR, reduceIte, Nat.reduceEqDiff, Int.reduceLT, Int.reduceLE, Int.reduceEq, Int.reduceNeg, reduceCtorEq, Nat.reduceAdd, Int.reduceToNat, L35_1, v0, v3, v4, opIxStr_s, ixC_at]; exact StepIs_refl)) | ((first | refine Br_intro ?_ ?_ | refine BrB_intro ?_ ?_) <;> intro hbr hbe <;> simp (maxSteps := 1000000) (disch := (first | omega | assumption | exact Fr.refl _)) only [hbe, sR, reduceIte, Nat.reduceEqDiff, Int.reduceLT, Int.reduceLE, Int.reduceEq, Int.reduceNeg, reduceCtorEq, Nat.reduceAdd, Int.reduceToNat, L35_1, v0, v3, v4, opIxStr_s, ixC_at] <;> clear hbe) | simp (maxSteps := 1000000) (disch := (first | omega | assumption | exact Fr.refl _)) only [sR, reduceIte, Nat.reduceEqDiff, Int.reduceLT, Int.reduceLE, Int.reduceEq, Int.reduceNeg, reduceCtorEq, Nat.reduceAdd, Int.reduceToNat, L35_1, v0, v3, v4, opIxStr_s, ixC_at])
  · have hi : i < s.length := by omega
    have hc := hc hi
    simp only [Bool.and_eq_true, decide_eq_true_eq] at hbr
    have hl : low (s.getD i 0) = s.getD i 0 + 32 := by unfold low; rw [if_pos (by omega)]
    have hw : wrapI .u8 (((s.getD i 0 : Nat) : Int) + 32) = ((s.getD i 0 + 32 : Nat) : Int) := by rw [wrap_u8 (by omega) (by omega)]; omega
    obtain ⟨v2, s3, h1, h2, h3⟩ := key hi _ hl _ rfl
    repeat' (first | ((first | apply RG_step | apply DG_step | apply DG_read); focus (intro hgd; have hgd2 := hgd; (try simp only [sB] at hgd); (try simp only [sP] at hgd2); simp (maxSteps := 1000000) (disch := (first | omega | assumption | exact Fr.refl _)) only [hgd, sR, reduceIte, Nat.reduceEqDiff, Int.reduceLT, Int.reduceLE, Int.reduceEq, Int.reduceNeg, reduceCtorEq, Nat.reduceAdd, Int.reduceToNat, hw, v3, v4, opBuildSlice_s, List.map_cons, List.map_nil, bsS, fillL_int1, opAppend_s, h1, w_add1]; exact StepIs_refl)) | ((first | refine Br_intro ?_ ?_ | refine BrB_intro ?_ ?_) <;> intro hbr hbe <;> simp (maxSteps := 1000000) (disch := (first | omega | assumption | exact Fr.refl _)) only [hbe, sR, reduceIte, Nat.reduceEqDiff, Int.reduceLT, Int.reduceLE, Int.reduceEq, Int.reduceNeg, reduceCtorEq, Nat.reduceAdd, Int.reduceToNat, hw, v3, v4, opBuildSlice_s, List.map_cons, List.map_nil, bsS, fillL_int1, opAppend_s, h1, w_add1] <;> clear hbe) | simp (maxSteps := 1000000) (disch := (first | omega | assumption | exact Fr.refl _)) only [sR, reduceIte, Nat.reduceEqDiff, Int.reduceLT, Int.reduceLE, Int.reduceEq, Int.reduceNeg, reduceCtorEq, Nat.reduceAdd, Int.reduceToNat, hw, v3, v4, opBuildSlice_s, List.map_cons, List.map_nil, bsS, fillL_int1, opAppend_s, h1, w_add1])
    exact ⟨n - 1, by omega, i + 1, v2, by omega, h2, by simp only [sV, Nat.reduceEqDiff, reduceIte, Nat.reduceAdd, v0], by simp only [sV, Nat.reduceEqDiff, reduceIte, Nat.reduceAdd], by simp only [sV, Nat.reduceEqDiff, reduceIte, Nat.reduceAdd], h3⟩
  · have hi : i < s.length := by omega
    simp only [Bool.and_eq_false_iff, decide_eq_false_iff_not] at hbr
    have hl : low (s.getD i 0) = s.getD i 0 := by unfold low; rw [if_neg (by omega)]
    obtain ⟨v2, s3, h1, h2, h3⟩ := key hi _ hl _ rfl
    repeat' (first | ((first | apply RG_step | apply DG_step | apply DG_read); focus (intro hgd; have hgd2 := hgd; (try simp only [sB] at hgd); (try simp only [sP] at hgd2); simp (maxSteps := 1000000) (disch := (first | omega | assumption | exact Fr.refl _)) only [hgd, sR, reduceIte, Nat.reduceEqDiff, Int.reduceLT, Int.reduceLE, Int.reduceEq, Int.reduceNeg, reduceCtorEq, Nat.reduceAdd, Int.reduceToNat, v3, v4, opBuildSlice_s, List.map_cons, List.map_nil, bsS, fillL_int1, opAppend_s, h1, w_add1]; exact StepIs_refl)) | ((first | refine Br_intro ?_ ?_ | refine BrB_intro ?_ ?_) <;> intro hbr hbe <;> simp (maxSteps := 1000000) (disch := (first | omega | assumption | exact Fr.refl _)) only [hbe, sR, reduceIte, Nat.reduceEqDiff, Int.reduceLT, Int.reduceLE, Int.reduceEq, Int.reduceNeg, reduceCtorEq, Nat.reduceAdd, Int.reduceToNat, v3, v4, opBuildSlice_s, List.map_cons, List.map_nil, bsS, fillL_int1, opAppend_s, h1, w_add1] <;> clear hbe) | simp (maxSteps := 1000000) (disch := (first | omega | assumption | exact Fr.refl _)) only [sR, reduceIte, Nat.reduceEqDiff, Int.reduceLT, Int.reduceLE, Int.reduceEq, Int.reduceNeg, reduceCtorEq, Nat.reduceAdd, Int.reduceToNat, v3, v4, opBuildSlice_s, List.map_cons, List.map_nil, bsS, fillL_int1, opAppend_s, h1, w_add1])
    exact ⟨n - 1, by omega, i + 1, v2, by omega, h2, by simp only [sV, Nat.reduceEqDiff, reduceIte, Nat.reduceAdd, v0], by simp only [sV, Nat.reduceEqDiff, reduceIte, Nat.reduceAdd], by simp only [sV, Nat.reduceEqDiff, reduceIte, Nat.reduceAdd], h3⟩
  · have h1 := SlI.strOf hO.sl (fun c hc => by obtain ⟨a, ha, rfl⟩ := List.mem_map.1 hc; exact low_lt (hs.1 a (List.mem_of_mem_take ha)))
    repeat' (first | ((first | apply RG_step | apply DG_step | apply DG_read); focus (intro hgd; have hgd2 := hgd; (try simp only [sB] at hgd); (try simp only [sP] at hgd2); simp (maxSteps := 1000000) (disch := (first | omega | assumption | exact Fr.refl _)) only [hgd, sR, reduceIte, Nat.reduceEqDiff, Int.reduceLT, Int.reduceLE, Int.reduceEq, Int.reduceNeg, reduceCtorEq, Nat.reduceAdd, Int.reduceToNat, opStrOf_s, h1]; exact StepIs_refl)) | ((first | refine Br_intro ?_ ?_ | refine BrB_intro ?_ ?_) <;> intro hbr hbe <;> simp (maxSteps := 1000000) (disch := (first | omega | assumption | exact Fr.refl _)) only [hbe, sR, reduceIte, Nat.reduceEqDiff, Int.reduceLT, Int.reduceLE, Int.reduceEq, Int.reduceNeg, reduceCtorEq, Nat.reduceAdd, Int.reduceToNat, opStrOf_s, h1] <;> clear hbe) | simp (maxSteps := 1000000) (disch := (first | omega | assumption | exact Fr.refl _)) only [sR, reduceIte, Nat.reduceEqDiff, Int.reduceLT, Int.reduceLE, Int.reduceEq, Int.reduceNeg, reduceCtorEq, Nat.reduceAdd, Int.reduceToNat, opStrOf_s, h1])
    exact ⟨by rw [List.take_of_length_le (by omega)], hf⟩

theorem stateS_cons (a : AttrD) (l : List AttrD) : stateS (a :: l) = if a.1 = [100, 105, 114] then
      if a.2.map low = [108, 116, 114] then 1 else if a.2.map low = [114, 116, 108] then 2 else if a.2.map low = [97, 117, 116, 111] then 3 else stateS l
    else stateS l := rfl
set_option maxHeartbeats 8000000 in
theorem rState_ok {σ : St} {t : List ND} {tv : AVal} (ht : TreeI σ tv t) (hwf : ∀ n ∈ t, NWF n) (hsh : Short t) {i : Nat} (hi : i < t.length) : CW TS false 21 [tv, .int .i64 (i : Int)] σ fun v s => v = .int .u8 ((stateS (t.getD i nd0).attrs : Nat) : Int) ∧ Fr σ s := by
  have hn := hwf t[i] (List.getElem_mem _)
  have hn2 := (hsh t[i] (List.getElem_mem _)).2
  rw [← getD_lt hi nd0] at hn hn2
  have hA := ht.as hi
  have hal := hn.alen
  refine CW_of fn21 rfl ?_
  repeat' (first | ((first | apply RG_step | apply DG_step | apply DG_read); focus (intro hgd; have hgd2 := hgd; (try simp only [sB] at hgd); (try simp only [sP] at hgd2); simp (maxSteps := 1000000) (disch := (first | omega | assumption | exact Fr.refl _)) only [hgd, sR, reduceIte, Nat.reduceEqDiff, Int.reduceLT, Int.reduceLE, Int.reduceEq, Int.reduceNeg, reduceCtorEq, Nat.reduceAdd, Int.reduceToNat, c21]; exact StepIs_refl)) | ((first | refine Br_intro ?_ ?_ | refine BrB_intro ?_ ?_) <;> intro hbr hbe <;> simp (maxSteps := 1000000) (disch := (first | omega | assumption | exact Fr.refl _)) only [hbe, sR, reduceIte, Nat.reduceEqDiff, Int.reduceLT, Int.reduceLE, Int.reduceEq, Int.reduceNeg, reduceCtorEq, Nat.reduceAdd, Int.reduceToNat, c21] <;> clear hbe) | simp (maxSteps := 1000000) (disch := (first | omega | assumption | exact Fr.refl _)) only [sR, reduceIte, Nat.reduceEqDiff, Int.reduceLT, Int.reduceLE, Int.reduceEq, Int.reduceNeg, reduceCtorEq, Nat.reduceAdd, Int.reduceToNat, c21])
  refine W_loop (fun n e s => ∃ k : Nat, k + n = (t.getD i nd0).attrs.length ∧ Fr σ s ∧ V e 0 = tv ∧ V e 1 = .int .i64 (i : Int) ∧ V e 5 = .int .i64 (k : Int) ∧ stateS (t.getD i nd0).attrs = stateS ((t.getD i nd0).attrs.drop k)) (t.getD i nd0).attrs.length ⟨0, by omega, Fr.refl _, by simp only [sV, Nat.reduceEqDiff, reduceIte, Nat.reduceAdd], by simp only [sV, Nat.reduceEqDiff, reduceIte, Nat.reduceAdd], by simp only [sV, Nat.reduceEqDiff, reduceIte, Nat.reduceAdd]; rfl, rfl⟩ ?_
  rintro n e s ⟨k, hk, hf, v0, v1, v5, hN⟩
  have hd : k < (t.getD i nd0).attrs.length → (t.getD i nd0).attrs.drop k = (t.getD i nd0).attrs.getD k at0 :: (t.getD i nd0).attrs.drop (k + 1) := fun h => by rw [List.drop_eq_getElem_cons h, getD_lt h]
  repeat' (first | ((first | apply RG_step | apply DG_step | apply DG_read); focus (intro hgd; have hgd2 := hgd; (try simp only [sB] at hgd); (try simp only [sP] at hgd2); simp (maxSteps := 1000000) (disch := (first | omega | assumption | exact Fr.refl _)) only [hgd, sR, reduceIte, Nat.reduceEqDiff, Int.reduceLT, Int.reduceLE, Int.reduceEq, Int.reduceNeg, reduceCtorEq, Nat.reduceAdd, Int.reduceToNat, L21_1, v0, v1, v5, ht.ixz, ht.a2, ht.n2, ht.al, hA.ixz, hA.f0, hA.f1, hA.l0, hA.l1, w_add1]; exact StepIs_refl)) | ((first | refine Br_intro ?_ ?_ | refine BrB_intro ?_ ?_) <;> intro hbr hbe <;> simp (maxSteps := 1000000) (disch := (first | omega | assumption | exact Fr.refl _)) only [hbe, sR, reduceIte, Nat.reduceEqDiff, Int.reduceLT, Int.reduceLE, Int.reduceEq, Int.reduceNeg, reduceCtorEq, Nat.reduceAdd, Int.reduceToNat, L21_1, v0, v1, v5, ht.ixz, ht.a2, ht.n2, ht.al, hA.ixz, hA.f0, hA.f1, hA.l0, hA.l1, w_add1] <;> clear hbe) | simp (maxSteps := 1000000) (disch := (first | omega | assumption | exact Fr.refl _)) only [sR, reduceIte, Nat.reduceEqDiff, Int.reduceLT, Int.reduceLE, Int.reduceEq, Int.reduceNeg, reduceCtorEq, Nat.reduceAdd, Int.reduceToNat, L21_1, v0, v1, v5, ht.ixz, ht.a2, ht.n2, ht.al, hA.ixz, hA.f0, hA.f1, hA.l0, hA.l1, w_add1])
  · have hkl : k < (t.getD i nd0).attrs.length := by omega
    have ha : (t.getD i nd0).attrs.getD k at0 ∈ (t.getD i nd0).attrs := by rw [getD_lt hkl]; exact List.getElem_mem _
    rw [hd hkl, stateS_cons, if_pos hbr] at hN
    refine Bd_call (Small_ok (hn.attrs _ ha).2 (hn2 _ ha)) ?_
    rintro _ s2 ⟨rfl, hf2⟩
    have hf2 := hf.trans hf2
    repeat' (first | ((first | apply RG_step | apply DG_step | apply DG_read); focus (intro hgd; have hgd2 := hgd; (try simp only [sB] at hgd); (try simp only [sP] at hgd2); simp (maxSteps := 1000000) (disch := (first | omega | assumption | exact Fr.refl _)) only [hgd, sR, reduceIte, Nat.reduceEqDiff, Int.reduceLT, Int.reduceLE, Int.reduceEq, Int.reduceNeg, reduceCtorEq, Nat.reduceAdd, Int.reduceToNat, v5, w_add1]; exact StepIs_refl)) | ((first | refine Br_intro ?_ ?_ | refine BrB_intro ?_ ?_) <;> intro hbr hbe <;> simp (maxSteps := 1000000) (disch := (first | omega | assumption | exact Fr.refl _)) only [hbe, sR, reduceIte, Nat.reduceEqDiff, Int.reduceLT, Int.reduceLE, Int.reduceEq, Int.reduceNeg, reduceCtorEq, Nat.reduceAdd, Int.reduceToNat, v5, w_add1] <;> clear hbe) | simp (maxSteps := 1000000) (disch := (first | omega | assumption | exact Fr.refl _)) only [sR, reduceIte, Nat.reduceEqDiff, Int.reduceLT, Int.reduceLE, Int.reduceEq, Int.reduceNeg, reduceCtorEq, Nat.reduceAdd, Int.reduceToNat, v5, w_add1])
    · rw [if_pos ‹_›] at hN; rw [hN]; exact ⟨rfl, hf2⟩
    · rw [if_neg ‹¬ _ = [108, 116, 114]›, if_pos ‹_›] at hN; rw [hN]; exact ⟨rfl, hf2⟩
    · rw [if_neg ‹¬ _ = [108, 116, 114]›, if_neg ‹¬ _ = [114, 116, 108]›, if_pos ‹_›] at hN; rw [hN]; exact ⟨rfl, hf2⟩
    · rw [if_neg ‹¬ _ = [108, 116, 114]›, if_neg ‹¬ _ = [114, 116, 108]›, if_neg ‹¬ _ = [97, 117, 116, 111]›] at hN
      exact ⟨n - 1, by omega, k + 1, by omega, hf2, by simp only [sV, Nat.reduceEqDiff, reduceIte, Nat.reduceAdd, v0], by simp only [sV, Nat.reduceEqDiff, reduceIte, Nat.reduceAdd, v1], by simp only [sV, Nat.reduceEqDiff, reduceIte, Nat.reduceAdd], hN⟩
  · rw [hd (by omega), stateS_cons, if_neg hbr] at hN
    exact ⟨n - 1, by omega, k + 1, by omega, hf, by simp only [sV, Nat.reduceEqDiff, reduceIte, Nat.reduceAdd, v0], by simp only [sV, Nat.reduceEqDiff, reduceIte, Nat.reduceAdd, v1], by simp only [sV, Nat.reduceEqDiff, reduceIte, Nat.reduceAdd], hN⟩
  · rw [List.drop_of_length_le (by omega)] at hN
    rw [hN]; exact ⟨rfl, hf⟩
end Go.Ab.Dirs
end

namespace Go.Ab.Dirs
open Go Go.Ab
set_option maxRecDepth 100000
noncomputable section
/- 4 selvedge/selvedgelaw10.DirsSays -/
theorem fn4 : (TS).fn.get (path 4) = some ⟨2, [.tmp (path 4)], c4⟩ := by kernel_rfl
/- 25 selvedge/dirs.sheet -/
theorem fn25 : (TS).fn.get (path 25) = some ⟨2, [.tmp (path 4), .tmp (path 5), .tmp (path 6)], c25⟩ := by kernel_rfl
/- 11 selvedge/dirs.All -/
theorem fn11 : (TS).fn.get (path 11) = some ⟨1, [.tmp (path 2), .tmp (path 3)], c11⟩ := by kernel_rfl
end
end Go.Ab.Dirs

set_option maxRecDepth 10000
noncomputable section
namespace Go.Ab.Dirs
open Go Go.Ab

section
variable {t : List ND} {tv : AVal} {σ : St}

theorem size_in (ht : TreeI σ tv t) {i : Nat} (hi : i < t.length) (hal : t[i].attrs.length < 9223372036854775808) (top : Int) : ∀ (m k : Nat) (n : Int) (e : Env) (r : Option (Out × Env × St)), k + m = t[i].attrs.length → Ew TS false (.loop L9_1) e σ = r →
    V e 0 = tv → V e 1 = .int .i64 top → V e 5 = .int .i64 n → V e 6 = .int .i64 (i : Int) → V e 7 = .int .i64 (k : Int) →
    ∃ e' n', r = some (.exit 2, e', σ) ∧ V e' 0 = tv ∧ V e' 1 = .int .i64 top ∧ V e' 5 = .int .i64 n' ∧ V e' 6 = .int .i64 (i : Int)
  | 0, k, n, e, r, hk, hr, h0, h1, h5, h6, h7 => by
    obtain ⟨av, kv, x1, x2⟩ := ht.get hi
    have x1 := x1 .i64
    have hl := SlI.len x2.attrs
    have hlt : ¬ ((k : Int) < (t[i].attrs.length : Int)) := by omega
    rw [Ew_loop] at hr
    simp only [L9_1, sA, reduceIte, Nat.reduceEqDiff, Int.reduceLT, Int.reduceLE, Int.reduceEq, Int.reduceNeg, reduceCtorEq, Nat.reduceAdd, opIaSl_s, opFieldAddr_s, opLoad_s, h0, h1, h5, h6, h7, x1, x2.f2, x2.l2, hl, hlt] at hr
    exact ⟨_, n, hr.symm, by simp only [sV, Nat.reduceEqDiff, reduceIte, Nat.reduceAdd, h0], by simp only [sV, Nat.reduceEqDiff, reduceIte, Nat.reduceAdd, h1], by simp only [sV, Nat.reduceEqDiff, reduceIte, Nat.reduceAdd, h5], by simp only [sV, Nat.reduceEqDiff, reduceIte, Nat.reduceAdd, h6]⟩
  | m + 1, k, n, e, r, hk, hr, h0, h1, h5, h6, h7 => by
    obtain ⟨av, kv, x1, x2⟩ := ht.get hi
    have x1 := x1 .i64
    have hl := SlI.len x2.attrs
    have hlt : ((k : Int) < (t[i].attrs.length : Int)) := by omega
    have hw : wrapI .i64 ((k : Int) + 1) = ((k + 1 : Nat) : Int) := by rw [wrap_i64 (by omega) (by omega)]; omega
    obtain ⟨g1, g2⟩ := x2.attrs.get (i := k) (by omega) (k := .i64)
    rw [Ew_loop] at hr
    by_cases hn : n ≤ top
    · simp only [L9_1, sA, reduceIte, Nat.reduceEqDiff, Int.reduceLT, Int.reduceLE, Int.reduceEq, Int.reduceNeg, reduceCtorEq, Nat.reduceAdd, sD, opIaSl_s, opFieldAddr_s, opLoad_s, h0, h1, h5, h6, h7, x1, x2.f2, x2.l2, hl, hlt, hn, g1, g2.f0, g2.l0, g2.f1, g2.l1, hw] at hr
      exact size_in ht hi hal top m (k + 1) _ _ r (by omega) hr (by simp only [sV, Nat.reduceEqDiff, reduceIte, Nat.reduceAdd, h0]) (by simp only [sV, Nat.reduceEqDiff, reduceIte, Nat.reduceAdd, h1]) (by simp only [sV, Nat.reduceEqDiff, reduceIte, Nat.reduceAdd]; rfl) (by simp only [sV, Nat.reduceEqDiff, reduceIte, Nat.reduceAdd, h6]) (by simp only [sV, Nat.reduceEqDiff, reduceIte, Nat.reduceAdd])
    · simp only [L9_1, sA, reduceIte, Nat.reduceEqDiff, Int.reduceLT, Int.reduceLE, Int.reduceEq, Int.reduceNeg, reduceCtorEq, Nat.reduceAdd, opIaSl_s, opFieldAddr_s, opLoad_s, h0, h1, h5, h6, h7, x1, x2.f2, x2.l2, hl, hlt, hn] at hr
      exact ⟨_, n, hr.symm, by simp only [sV, Nat.reduceEqDiff, reduceIte, Nat.reduceAdd, h0], by simp only [sV, Nat.reduceEqDiff, reduceIte, Nat.reduceAdd, h1], by simp only [sV, Nat.reduceEqDiff, reduceIte, Nat.reduceAdd, h5], by simp only [sV, Nat.reduceEqDiff, reduceIte, Nat.reduceAdd, h6]⟩

theorem size_out (ht : TreeI σ tv t) (hal : ∀ n ∈ t, n.attrs.length < 9223372036854775808) (hb : t.length < 9223372036854775808) (top : Int) : ∀ (m i : Nat) (n : Int) (e : Env) (r : Option (Out × Env × St)), i + m = t.length → Ew TS false (.loop L9_2) e σ = r →
    V e 0 = tv → V e 1 = .int .i64 top → V e 5 = .int .i64 n → V e 6 = .int .i64 (i : Int) →
    ∃ e' n', r = some (.exit 0, e', σ) ∧ V e' 1 = .int .i64 top ∧ V e' 5 = .int .i64 n'
  | 0, i, n, e, r, hk, hr, h0, h1, h5, h6 => by
    have hl := ht.len
    have hlt : ¬ ((i : Int) < (t.length : Int)) := by omega
    rw [Ew_loop] at hr
    simp only [L9_2, sA, reduceIte, Nat.reduceEqDiff, Int.reduceLT, Int.reduceLE, Int.reduceEq, Int.reduceNeg, reduceCtorEq, Nat.reduceAdd, h0, h1, h5, h6, hl, hlt] at hr
    exact ⟨_, n, hr.symm, by simp only [sV, Nat.reduceEqDiff, reduceIte, Nat.reduceAdd, h1], by simp only [sV, Nat.reduceEqDiff, reduceIte, Nat.reduceAdd, h5]⟩
  | m + 1, i, n, e, r, hk, hr, h0, h1, h5, h6 => by
    have hl := ht.len
    have hi : i < t.length := by omega
    have hlt : ((i : Int) < (t.length : Int)) := by omega
    have hw : wrapI .i64 ((i : Int) + 1) = ((i + 1 : Nat) : Int) := by rw [wrap_i64 (by omega) (by omega)]; omega
    obtain ⟨av, kv, x1, x2⟩ := ht.get hi
    have x1 := x1 .i64
    have hla := SlI.len x2.attrs
    have hlk := SlI.len x2.kids
    rw [Ew_loop] at hr
    by_cases hn : n ≤ top
    · simp only [L9_2, sA, reduceIte, Nat.reduceEqDiff, Int.reduceLT, Int.reduceLE, Int.reduceEq, Int.reduceNeg, reduceCtorEq, Nat.reduceAdd, sD, opIaSl_s, opFieldAddr_s, opLoad_s, h0, h1, h5, h6, x1, x2.f1, x2.l1, x2.f2, x2.l2, x2.f3, x2.l3, x2.f5, x2.l5, hl, hla, hlk, hlt, hn] at hr
      generalize hr2 : Ew TS false (.loop L9_1) _ _ = r2 at hr
      obtain ⟨e2, n2, rfl, b0, b1, b5, b6⟩ := size_in ht hi (hal _ (List.getElem_mem _)) top t[i].attrs.length 0 _ _ r2 (by omega) hr2 (by simp only [sV, Nat.reduceEqDiff, reduceIte, Nat.reduceAdd, h0]) (by simp only [sV, Nat.reduceEqDiff, reduceIte, Nat.reduceAdd, h1]) (by simp only [sV, Nat.reduceEqDiff, reduceIte, Nat.reduceAdd]; rfl) (by simp only [sV, Nat.reduceEqDiff, reduceIte, Nat.reduceAdd, h6]) (by simp only [sV, Nat.reduceEqDiff, reduceIte, Nat.reduceAdd]; rfl)
      simp only [sA, reduceIte, Nat.reduceEqDiff, Int.reduceLT, Int.reduceLE, Int.reduceEq, Int.reduceNeg, reduceCtorEq, Nat.reduceAdd, b6, hw] at hr
      exact size_out ht hal hb top m (i + 1) n2 _ r (by omega) hr (by simp only [sV, Nat.reduceEqDiff, reduceIte, Nat.reduceAdd, b0]) (by simp only [sV, Nat.reduceEqDiff, reduceIte, Nat.reduceAdd, b1]) (by simp only [sV, Nat.reduceEqDiff, reduceIte, Nat.reduceAdd, b5]) (by simp only [sV, Nat.reduceEqDiff, reduceIte, Nat.reduceAdd])
    · simp only [L9_2, sA, reduceIte, Nat.reduceEqDiff, Int.reduceLT, Int.reduceLE, Int.reduceEq, Int.reduceNeg, reduceCtorEq, Nat.reduceAdd, h0, h1, h5, h6, hl, hlt, hn] at hr
      exact ⟨_, n, hr.symm, by simp only [sV, Nat.reduceEqDiff, reduceIte, Nat.reduceAdd, h1], by simp only [sV, Nat.reduceEqDiff, reduceIte, Nat.reduceAdd, h5]⟩

theorem Size_ok (ht : TreeI σ tv t) (hal : ∀ n ∈ t, n.attrs.length < 9223372036854775808) (hb : t.length < 9223372036854775808) (top : Int) : ∃ n : Int, Cw TS false 9 [tv, .int .i64 top] σ = some (.int .i64 n, σ) := by
  have hl := ht.len
  rw [Cw_of fn9 false _ σ rfl]
  simp only [c9, sA, reduceIte, Nat.reduceEqDiff, Int.reduceLT, Int.reduceLE, Int.reduceEq, Int.reduceNeg, reduceCtorEq, Nat.reduceAdd, hl]
  generalize hr : Ew TS false (.loop L9_2) _ _ = r
  obtain ⟨e, n, rfl, h1, h5⟩ := size_out ht hal hb top t.length 0 _ _ r (by omega) hr (by simp only [sV, Nat.reduceEqDiff, reduceIte, Nat.reduceAdd]) (by simp only [sV, Nat.reduceEqDiff, reduceIte, Nat.reduceAdd]) (by simp only [sV, Nat.reduceEqDiff, reduceIte, Nat.reduceAdd]; rfl) (by simp only [sV, Nat.reduceEqDiff, reduceIte, Nat.reduceAdd]; rfl)
  simp only [sA, reduceIte, Nat.reduceEqDiff, Int.reduceLT, Int.reduceLE, Int.reduceEq, Int.reduceNeg, reduceCtorEq, Nat.reduceAdd, opMn, h1, h5]
  exact ⟨_, rfl⟩
end
end Go.Ab.Dirs
end

set_option maxRecDepth 10000
noncomputable section
namespace Go.Ab.Dirs
open Go Go.Ab

theorem scanL_congr {g g' : Nat → Option Nat} : ∀ {l : List Int}, (∀ z ∈ l, g z.toNat = g' z.toNat) → scanL g l = scanL g' l
  | [], _ => rfl
  | z :: l, h => by
    unfold scanL
    rw [h z (List.mem_cons_self), scanL_congr fun y hy => h y (List.mem_cons_of_mem _ hy)]

theorem scanF_fuel {t : List ND} (hk : KidsT t) : ∀ (f f' i : Nat), i < t.length → t.length - i ≤ f → t.length - i ≤ f' → scanF t f i = scanF t f' i
  | 0, _, i, hi, h, _ => by omega
  | _ + 1, 0, i, hi, _, h => by omega
  | f + 1, f' + 1, i, hi, h, h' => by
    rw [scanF, scanF]
    refine scanL_congr fun z hz => ?_
    obtain ⟨k, rfl, h1, h2⟩ := hk i hi z hz
    rw [Int.toNat_natCast, scanF_fuel hk f f' k h2 (by omega) (by omega)]

/-- A text alone in a paragraph. -/
def t3 (data : List Nat) : List ND := [⟨0, [], [], [], -1, [1]⟩, ⟨1, [112], [], [], 0, [2]⟩, ⟨2, [], [], data, 1, []⟩]
theorem t3_right {data : List Nat} (h1 : data ≠ []) (h2 : wellS data = true) : rightS (t3 data) = true := by
  have e1 : fitsS (t3 data) [0] 0 ⟨0, [], [], [], -1, [1]⟩ = true := by unfold fitsS; rw [if_pos rfl]; rfl
  have e2 : fitsS (t3 data) [0] 1 ⟨1, [112], [], [], 0, [2]⟩ = true := by
    have ha : attrsS [] = true := by decide
    have hn : nestedS (t3 data) [0] [112] = true := by unfold nestedS; kernel_rfl
    have hu : upBad (upOf (t3 data) [0]) = false := by kernel_rfl
    unfold fitsS
    rw [if_neg (by decide), hu]
    simp only [ha, hn]
    rfl
  have e3 : fitsS (t3 data) [0, 1] 2 ⟨2, [], [], data, 1, []⟩ = true := by
    have hu : upBad (upOf (t3 data) [0, 1]) = false := by kernel_rfl
    have hp : prevS (t3 data) (upOf (t3 data) [0, 1]) 2 = true := by
      have : upOf (t3 data) [0, 1] = ⟨1, [112], [], [], 0, [2]⟩ := by kernel_rfl
      rw [this]
      unfold prevS
      have : decide (idxS ((2 : Nat) : Int) [2] 0 < 1) = true := by decide
      simp only [this, Bool.true_or]
    unfold fitsS
    rw [if_neg (by decide), hu]
    simp only [h2, hp]
    have : decide (data ≠ []) = true := by simp [h1]
    simp only [this]
    rfl
  have hs0 : stepR (t3 data) 0 [0] [0, 0, 0] = some ([0], [0, 0, 0]) := by
    unfold stepR
    rw [if_pos rfl, show (t3 data).getD 0 dN = ⟨0, [], [], [], -1, [1]⟩ from rfl, e1]; rfl
  have hs1 : stepR (t3 data) 1 [0] [0, 0, 0] = some ([0, 1], [1, 0, 0]) := by
    unfold stepR
    rw [if_neg (by decide), show (t3 data).getD 1 dN = ⟨1, [112], [], [], 0, [2]⟩ from rfl]
    simp only [show popS 0 [0] = [0] from by decide, e2]
    rw [if_pos ⟨by decide, by show 0 < 1; decide, by rfl⟩]
    rfl
  have hs2 : stepR (t3 data) 2 [0, 1] [1, 0, 0] = some ([0, 1, 2], [1, 1, 0]) := by
    unfold stepR
    rw [if_neg (by decide), show (t3 data).getD 2 dN = ⟨2, [], [], data, 1, []⟩ from rfl]
    simp only [show popS 1 [0, 1] = [0, 1] from by decide, e3]
    rw [if_pos ⟨by decide, by show 0 < 1; decide, by rfl⟩]
    rfl
  have hg : rightG (t3 data) 3 0 [0] [0, 0, 0] = some [1, 1, 0] := by
    simp only [rightG, hs0, hs1, hs2]
  have hh : headS (t3 data) = true := by kernel_rfl
  unfold rightS
  rw [hh, Bool.true_and, show (t3 data).length = 3 from rfl, show List.replicate 3 0 = [0, 0, 0] from rfl, hg]
  show finS (t3 data) [1, 1, 0] 3 0 = true
  rfl

theorem t3_scan {data : List Nat} (h1 : data ≠ []) (h2 : wellS data = true) : ScanS (t3 data) 1 = firstS data := by
  have he : elemS (t3 data) 1 = true := by unfold elemS; rw [t3_right h1 h2]; rfl
  unfold ScanS
  rw [he, if_pos rfl]
  have hk : openS ⟨2, [], [], data, 1, []⟩ = false := by unfold openS; rfl
  show scanF (t3 data) 3 1 = _
  rw [scanF, show ((t3 data).getD 1 dN).kids = [2] from rfl]
  simp only [scanL, show (2 : Int).toNat = 2 from rfl, show (t3 data).getD 2 dN = ⟨2, [], [], data, 1, []⟩ from rfl, hk, Bool.false_eq_true, if_false]
  cases firstS data <;> rfl

/-- A node below another in a right tree: a text or an element. -/
theorem node_facts {t : List ND} (h : rightS t = true) {j : Nat} (hj : 0 < j) (hjt : j < t.length) :
    (t[j].kind = 2 ∧ t[j].data ≠ [] ∧ wellS t[j].data = true) ∨ (t[j].kind = 1 ∧ t[j].data = []) := by
  obtain ⟨-, hf, -, -⟩ := right_facts h
  obtain ⟨q, hq⟩ := hf j hjt
  rw [getD_at hjt] at hq
  unfold fitsS at hq
  rw [if_neg (by omega)] at hq
  split at hq
  · simp at hq
  · split at hq
    · rename_i hk
      simp only [Bool.and_eq_true, decide_eq_true_eq] at hq
      exact .inl ⟨hk, hq.2.1, hq.2.2.1⟩
    · split at hq
      · rename_i hk
        simp only [Bool.and_eq_true, decide_eq_true_eq] at hq
        exact .inr ⟨hk, hq.1⟩
      · simp at hq

theorem head_kind {t : List ND} (h : rightS t = true) : (t.getD 0 dN).kind = 0 := by
  unfold rightS headS at h
  simp only [Bool.and_eq_true, decide_eq_true_eq] at h
  exact h.1.2.2.1

/-- What a child tells. -/
def toldS (t : List ND) (j : Nat) : Option Nat :=
  if (t.getD j dN).kind = 2 then firstS (t.getD j dN).data
  else if (t.getD j dN).name ≠ [98, 100, 105] ∧ StateS t (j : Int) = 0 then ScanS t (j : Int) else none

theorem told_scanK {t : List ND} (h : rightS t = true) {j : Nat} (hj : 0 < j) (hjt : j < t.length) : scanK t (t.length - 1) j = toldS t j := by
  unfold scanK toldS
  rw [getD_at hjt]
  obtain ⟨hk, -, -, -⟩ := right_facts h
  rcases node_facts h hj hjt with ⟨a, b, c⟩ | ⟨a, b⟩
  · have : openS t[j] = false := by unfold openS; rw [a]; rfl
    rw [this, if_pos a]; rfl
  · rw [if_neg (show ¬ t[j].kind = 2 by omega), b, firstS_nil]
    have he : elemS t (j : Int) = true := by
      unfold elemS
      rw [Int.toNat_natCast, getD_at hjt, h, decide_eq_true (show (0 : Int) < (j : Int) by omega), decide_eq_true (show (j : Int) < (t.length : Int) by omega), decide_eq_true a]
      rfl
    have hst : StateS t (j : Int) = stateS t[j].attrs := by unfold StateS; rw [he, if_pos rfl, Int.toNat_natCast, getD_at hjt]
    have hsc : ScanS t (j : Int) = scanF t (t.length - 1) j := by
      unfold ScanS scanS
      rw [he, if_pos rfl, Int.toNat_natCast]
      exact scanF_fuel hk _ _ j hjt (by omega) (by omega)
    rw [hst, hsc]
    by_cases c1 : t[j].name ≠ [98, 100, 105]
    · by_cases c2 : stateS t[j].attrs = 0
      · have : openS t[j] = true := by unfold openS; simp [a, c1, c2]
        rw [this, if_pos rfl, if_pos ⟨c1, c2⟩]
        cases scanF t (t.length - 1) j <;> rfl
      · have : openS t[j] = false := by unfold openS; simp [c2]
        rw [this, if_neg (by decide), if_neg (fun hh => c2 hh.2)]
    · have : openS t[j] = false := by unfold openS; simp at c1; simp [c1]
      rw [this, if_neg (by decide), if_neg (fun hh => c1 hh.1)]

theorem scan_told {t : List ND} (h : rightS t = true) {i : Nat} (hi : i < t.length) : scanS t i = scanL (toldS t) t[i].kids := by
  obtain ⟨hk, -, hl, -⟩ := right_facts h
  unfold scanS
  obtain ⟨m, hm⟩ : ∃ m, t.length = m + 1 := ⟨t.length - 1, by omega⟩
  have : scanF t t.length i = scanL (scanK t (t.length - 1)) t[i].kids := by
    rw [hm, scanF, getD_at hi]; rfl
  rw [this]
  refine scanL_congr fun z hz => ?_
  obtain ⟨k, rfl, h1, h2⟩ := hk i hi z (by rw [getD_at hi]; exact hz)
  rw [Int.toNat_natCast]
  exact told_scanK h (by omega) h2
end Go.Ab.Dirs
end

set_option maxRecDepth 10000
noncomputable section
namespace Go.Ab.Dirs
open Go Go.Ab

/-- What HTML's own sheet says: a direction. -/
def sheetD (t : List ND) (i : Nat) : Option Nat :=
  if stateS (t.getD i dN).attrs = 2 then some 1 else if stateS (t.getD i dN).attrs = 1 then some 0
  else if stateS (t.getD i dN).attrs = 3 ∨ (t.getD i dN).name = [98, 100, 105] then some ((scanS t i).getD 0) else none
def sheetB (t : List ND) (i : Nat) : Nat :=
  if (t.getD i dN).name = [98, 100, 111] then 4 else if (sheetD t i).isSome = true ∨ endsS (kindS (t.getD i dN).name) = true then 2 else 0

section
variable {σ : St} {t : List ND} {tv : AVal} {e : Env} {r : Option (Out × Env × St)}

theorem sheet_a (ht : TreeI σ tv t) (hwf : ∀ n ∈ t, NWF n) (hk : KidsT t) {i : Nat} (hi : i < t.length) {b : Nat} {av kv : AVal} (hc : Copy σ b t[i] av kv) (hr : Ew TS false (.block 0 (.seq B25_4 B25_10)) e σ = r)
    (h0 : V e 0 = tv) (h1 : V e 1 = .int .i64 (i : Int)) (h4 : V e 4 = .int .u8 0) (h5 : V e 5 = .bool false) (h7 : V e 7 = .ptr b 0) (h8 : V e 8 = .int .u8 (stateS t[i].attrs : Int)) :
    ∃ e' σ', Fr σ σ' ∧ r = some (.normal, e', σ') ∧ V e' 4 = .int .u8 (((sheetD t i).getD 0 : Nat) : Int) ∧ V e' 5 = .bool (sheetD t i).isSome ∧ V e' 6 = V e 6 ∧ V e' 7 = V e 7 := by
  have hgi : t.getD i dN = t[i] := getD_at hi dN
  obtain ⟨⟨f, ty, hg⟩, -⟩ := id hc
  by_cases c2 : stateS t[i].attrs = 2
  · have hs : sheetD t i = some 1 := by unfold sheetD; rw [hgi, if_pos c2]
    have c2' := eq_true (show (stateS t[i].attrs : Int) = 2 by omega)
    simp only [B25_4, B25_10, sA, reduceIte, Nat.reduceEqDiff, Int.reduceLT, Int.reduceLE, Int.reduceEq, Int.reduceNeg, reduceCtorEq, Nat.reduceAdd, h8, c2'] at hr
    exact ⟨_, _, Fr.refl _, hr.symm, by simp only [sV, Nat.reduceEqDiff, reduceIte, Nat.reduceAdd, hs]; rfl, by simp only [sV, Nat.reduceEqDiff, reduceIte, Nat.reduceAdd, hs]; rfl, by simp only [sV, Nat.reduceEqDiff, reduceIte, Nat.reduceAdd], by simp only [sV, Nat.reduceEqDiff, reduceIte, Nat.reduceAdd]⟩
  · have c2' : ¬ (stateS t[i].attrs : Int) = 2 := by omega
    by_cases c1 : stateS t[i].attrs = 1
    · have hs : sheetD t i = some 0 := by unfold sheetD; rw [hgi, if_neg c2, if_pos c1]
      have c1' := eq_true (show (stateS t[i].attrs : Int) = 1 by omega)
      simp only [B25_4, B25_10, B25_5, B25_9, sA, reduceIte, Nat.reduceEqDiff, Int.reduceLT, Int.reduceLE, Int.reduceEq, Int.reduceNeg, reduceCtorEq, Nat.reduceAdd, h8, c2', c1'] at hr
      exact ⟨_, _, Fr.refl _, hr.symm, by simp only [sV, Nat.reduceEqDiff, reduceIte, Nat.reduceAdd, hs, h4]; rfl, by simp only [sV, Nat.reduceEqDiff, reduceIte, Nat.reduceAdd, hs]; rfl, by simp only [sV, Nat.reduceEqDiff, reduceIte, Nat.reduceAdd], by simp only [sV, Nat.reduceEqDiff, reduceIte, Nat.reduceAdd]⟩
    · have c1' : ¬ (stateS t[i].attrs : Int) = 1 := by omega
      obtain ⟨σ', hf, hsc⟩ := scan_ok ht hwf hk hi
      by_cases c3 : stateS t[i].attrs = 3
      · have hs : sheetD t i = some ((scanS t i).getD 0) := by unfold sheetD; rw [hgi, if_neg c2, if_neg c1, if_pos (.inl c3)]
        have c3' := eq_true (show (stateS t[i].attrs : Int) = 3 by omega)
        simp only [B25_4, B25_10, B25_5, B25_9, B25_6, B25_7, B25_8, sA, reduceIte, Nat.reduceEqDiff, Int.reduceLT, Int.reduceLE, Int.reduceEq, Int.reduceNeg, reduceCtorEq, Nat.reduceAdd, h0, h1, h8, c2', c1', c3', opCall, argsOf, hsc, wayV, opExtract, dropX_zero, dropX_1] at hr
        exact ⟨_, _, hf, hr.symm, by simp only [sV, Nat.reduceEqDiff, reduceIte, Nat.reduceAdd, hs]; rfl, by simp only [sV, Nat.reduceEqDiff, reduceIte, Nat.reduceAdd, hs]; rfl, by simp only [sV, Nat.reduceEqDiff, reduceIte, Nat.reduceAdd], by simp only [sV, Nat.reduceEqDiff, reduceIte, Nat.reduceAdd]⟩
      · have c3' : ¬ (stateS t[i].attrs : Int) = 3 := by omega
        by_cases c4 : t[i].name = [98, 100, 105]
        · have hs : sheetD t i = some ((scanS t i).getD 0) := by unfold sheetD; rw [hgi, if_neg c2, if_neg c1, if_pos (.inr c4)]
          have c4' := eq_true c4
          simp only [B25_4, B25_10, B25_5, B25_9, B25_6, B25_7, B25_8, sA, reduceIte, Nat.reduceEqDiff, Int.reduceLT, Int.reduceLE, Int.reduceEq, Int.reduceNeg, reduceCtorEq, Nat.reduceAdd, sM, h0, h1, h7, h8, c2', c1', c3', hg, c4', opCall, argsOf, hsc, wayV, opExtract] at hr
          exact ⟨_, _, hf, hr.symm, by simp only [sV, Nat.reduceEqDiff, reduceIte, Nat.reduceAdd, hs]; rfl, by simp only [sV, Nat.reduceEqDiff, reduceIte, Nat.reduceAdd, hs]; rfl, by simp only [sV, Nat.reduceEqDiff, reduceIte, Nat.reduceAdd], by simp only [sV, Nat.reduceEqDiff, reduceIte, Nat.reduceAdd, h7]⟩
        · have hs : sheetD t i = none := by unfold sheetD; rw [hgi, if_neg c2, if_neg c1, if_neg (fun h => h.elim c3 c4)]
          simp only [B25_4, B25_10, B25_5, B25_9, B25_6, B25_7, B25_8, sA, reduceIte, Nat.reduceEqDiff, Int.reduceLT, Int.reduceLE, Int.reduceEq, Int.reduceNeg, reduceCtorEq, Nat.reduceAdd, sM, h7, h8, c2', c1', c3', hg, c4] at hr
          exact ⟨_, _, Fr.refl _, hr.symm, by simp only [sV, Nat.reduceEqDiff, reduceIte, Nat.reduceAdd, hs, h4]; rfl, by simp only [sV, Nat.reduceEqDiff, reduceIte, Nat.reduceAdd, hs, h5]; rfl, by simp only [sV, Nat.reduceEqDiff, reduceIte, Nat.reduceAdd], by simp only [sV, Nat.reduceEqDiff, reduceIte, Nat.reduceAdd, h7]⟩

theorem sheet_b {n : ND} {av kv : AVal} {b k : Nat} {has : Bool} (hc : Copy σ b n av kv) (hr : Ew TS false (.block 1 (.seq B25_12 B25_16)) e σ = r) (h5 : V e 5 = .bool has) (h6 : V e 6 = .int .u8 0) (h7 : V e 7 = .ptr b 0) (h9 : V e 9 = .int .u8 (k : Int)) :
    ∃ e', r = some (.normal, e', σ) ∧ V e' 4 = V e 4 ∧ V e' 5 = V e 5 ∧ V e' 6 = .int .u8 (((if n.name = [98, 100, 111] then 4 else if has = true ∨ endsS k = true then 2 else 0 : Nat)) : Int) := by
  obtain ⟨⟨f, ty, hg⟩, -⟩ := id hc
  by_cases c1 : n.name = [98, 100, 111]
  · have c1' := eq_true c1
    rw [if_pos c1]
    simp only [B25_12, B25_16, sA, reduceIte, Nat.reduceEqDiff, Int.reduceLT, Int.reduceLE, Int.reduceEq, Int.reduceNeg, reduceCtorEq, Nat.reduceAdd, sM, h7, hg, c1'] at hr
    exact ⟨_, hr.symm, by simp only [sV, Nat.reduceEqDiff, reduceIte, Nat.reduceAdd], by simp only [sV, Nat.reduceEqDiff, reduceIte, Nat.reduceAdd], by simp only [sV, Nat.reduceEqDiff, reduceIte, Nat.reduceAdd]; rfl⟩
  · rw [if_neg c1]
    cases has with
    | true =>
      rw [if_pos (.inl rfl)]
      simp only [B25_12, B25_16, B25_15, sA, reduceIte, Nat.reduceEqDiff, Int.reduceLT, Int.reduceLE, Int.reduceEq, Int.reduceNeg, reduceCtorEq, Nat.reduceAdd, sM, h5, h7, hg, c1] at hr
      exact ⟨_, hr.symm, by simp only [sV, Nat.reduceEqDiff, reduceIte, Nat.reduceAdd], by simp only [sV, Nat.reduceEqDiff, reduceIte, Nat.reduceAdd, h5], by simp only [sV, Nat.reduceEqDiff, reduceIte, Nat.reduceAdd]; rfl⟩
    | false =>
      by_cases k1 : (1 : Int) ≤ (k : Int)
      · by_cases k2 : (k : Int) ≤ 4
        · have he : endsS k = true := by unfold endsS; simp; omega
          rw [if_pos (.inr he)]
          simp only [B25_12, B25_13, B25_14, B25_16, B25_15, sA, reduceIte, Nat.reduceEqDiff, Int.reduceLT, Int.reduceLE, Int.reduceEq, Int.reduceNeg, reduceCtorEq, Nat.reduceAdd, sM, h5, h7, h9, hg, c1, k1, k2] at hr
          exact ⟨_, hr.symm, by simp only [sV, Nat.reduceEqDiff, reduceIte, Nat.reduceAdd], by simp only [sV, Nat.reduceEqDiff, reduceIte, Nat.reduceAdd, h5], by simp only [sV, Nat.reduceEqDiff, reduceIte, Nat.reduceAdd]; rfl⟩
        · by_cases k8 : (k : Int) = 8
          · have he : endsS k = true := by unfold endsS; simp; omega
            have k8' := eq_true k8
            rw [if_pos (.inr he)]
            simp only [B25_12, B25_13, B25_14, B25_16, B25_15, sA, reduceIte, Nat.reduceEqDiff, Int.reduceLT, Int.reduceLE, Int.reduceEq, Int.reduceNeg, reduceCtorEq, Nat.reduceAdd, sM, h5, h7, h9, hg, c1, k1, k2, k8'] at hr
            exact ⟨_, hr.symm, by simp only [sV, Nat.reduceEqDiff, reduceIte, Nat.reduceAdd], by simp only [sV, Nat.reduceEqDiff, reduceIte, Nat.reduceAdd, h5], by simp only [sV, Nat.reduceEqDiff, reduceIte, Nat.reduceAdd]; rfl⟩
          · have he : endsS k = false := by unfold endsS; simp; omega
            rw [if_neg (by rw [he]; simp)]
            simp only [B25_12, B25_13, B25_14, B25_16, B25_15, sA, reduceIte, Nat.reduceEqDiff, Int.reduceLT, Int.reduceLE, Int.reduceEq, Int.reduceNeg, reduceCtorEq, Nat.reduceAdd, sM, h5, h7, h9, hg, c1, k1, k2, k8] at hr
            exact ⟨_, hr.symm, by simp only [sV, Nat.reduceEqDiff, reduceIte, Nat.reduceAdd], by simp only [sV, Nat.reduceEqDiff, reduceIte, Nat.reduceAdd, h5], by simp only [sV, Nat.reduceEqDiff, reduceIte, Nat.reduceAdd, h6]; rfl⟩
      · have k8 : ¬ (k : Int) = 8 := by omega
        have he : endsS k = false := by unfold endsS; simp; omega
        rw [if_neg (by rw [he]; simp)]
        simp only [B25_12, B25_13, B25_14, B25_16, B25_15, sA, reduceIte, Nat.reduceEqDiff, Int.reduceLT, Int.reduceLE, Int.reduceEq, Int.reduceNeg, reduceCtorEq, Nat.reduceAdd, sM, h5, h7, h9, hg, c1, k1, k8] at hr
        exact ⟨_, hr.symm, by simp only [sV, Nat.reduceEqDiff, reduceIte, Nat.reduceAdd], by simp only [sV, Nat.reduceEqDiff, reduceIte, Nat.reduceAdd, h5], by simp only [sV, Nat.reduceEqDiff, reduceIte, Nat.reduceAdd, h6]; rfl⟩

theorem sheet_ok (ht : TreeI σ tv t) (hwf : ∀ n ∈ t, NWF n) (hk : KidsT t) {i : Nat} (hi : i < t.length) :
    ∃ σ', Fr σ σ' ∧ Cw TS false 25 [tv, .int .i64 (i : Int)] σ = some (.tuple [.int .u8 (((sheetD t i).getD 0 : Nat) : Int), .bool (sheetD t i).isSome, .int .u8 ((sheetB t i : Nat) : Int)], σ') := by
  obtain ⟨av, kv, x1, x2⟩ := ht.get hi
  have x1 := x1 .i64
  have hn := hwf t[i] (List.getElem_mem _)
  have o1 := x2.attrs.one
  have o2 := x2.kids.one
  have hc := Copy.of (z := .nils) (f := true) (t := 36) (zs := [.int .u8 0, .str [], .nils, .str [], .int .i64 0, .nils]) x2
  have hf2 : Fr σ ((σ.new (.cells true 36 [.int .u8 0, .str [], .nils, .str [], .int .i64 0, .nils])).put σ.next (.cells true 36 [.int .u8 (t[i].kind : Int), .str t[i].name, av, .str t[i].data, .int .i64 t[i].up, kv])) := (Fr.new _ _).put (Nat.le_refl _) _
  have x2l := x2.ld
  generalize e2 : (σ.new (.cells true 36 [.int .u8 0, .str [], .nils, .str [], .int .i64 0, .nils])).put σ.next (.cells true 36 [.int .u8 (t[i].kind : Int), .str t[i].name, av, .str t[i].data, .int .i64 t[i].up, kv]) = σ2 at hc hf2
  obtain ⟨⟨f, ty, hg⟩, -, hal, -⟩ := id hc
  obtain ⟨σ3, hf3, hs⟩ := state_ok (a := .int .u8 (t[i].kind : Int)) (b := .str t[i].name) (c := .str t[i].data) (d := .int .i64 t[i].up) (f := kv) t[i].attrs σ2 hn.alen hn.attrs hal
  have hf := hf2.trans hf3
  rw [Cw_of fn25 false _ σ rfl]
  simp only [c25, B25_1, B25_2, B25_3, sC, reduceIte, Nat.reduceEqDiff, sO, Int.reduceLT, Int.reduceLE, Int.reduceEq, Int.reduceNeg, reduceCtorEq, sF, Nat.reduceAdd, sM, x1, x2l, o1, o2, e2, hg, opCall, argsOf, hs]
  rw [← Ew_seq, ← Ew_block]
  generalize hr : Ew TS false (.block 0 (.seq B25_4 B25_10)) _ _ = r1
  obtain ⟨e1, σ4, hf4, rfl, a4, a5, a6, a7⟩ := sheet_a (ht.fr hf) hwf hk hi (hc.fr hf3) hr (by simp only [sV, Nat.reduceEqDiff, reduceIte, Nat.reduceAdd]) (by simp only [sV, Nat.reduceEqDiff, reduceIte, Nat.reduceAdd]) (by simp only [sV, Nat.reduceEqDiff, reduceIte, Nat.reduceAdd]) (by simp only [sV, Nat.reduceEqDiff, reduceIte, Nat.reduceAdd]) (by simp only [sV, Nat.reduceEqDiff, reduceIte, Nat.reduceAdd]) (by simp only [sV, Nat.reduceEqDiff, reduceIte, Nat.reduceAdd])
  simp only [sV, Nat.reduceEqDiff, reduceIte, Nat.reduceAdd] at a6 a7
  have hc4 := (hc.fr hf3).fr hf4
  obtain ⟨⟨f4, ty4, hg4⟩, -⟩ := id hc4
  have hK := Kind_ok false t[i].name σ4
  simp only [sC, reduceIte, Nat.reduceEqDiff, sO, Int.reduceLT, Int.reduceLE, Int.reduceEq, Int.reduceNeg, reduceCtorEq, sF, Nat.reduceAdd, sM, B25_11, a7, hg4, opCall, argsOf, hK]
  rw [← Ew_seq, ← Ew_block]
  generalize hr2 : Ew TS false (.block 1 (.seq B25_12 B25_16)) _ _ = r2
  obtain ⟨e5, rfl, b4, b5, b6⟩ := sheet_b (has := (sheetD t i).isSome) (k := kindS t[i].name) hc4 hr2 (by simp only [sV, Nat.reduceEqDiff, reduceIte, Nat.reduceAdd, a5]) (by simp only [sV, Nat.reduceEqDiff, reduceIte, Nat.reduceAdd, a6]) (by simp only [sV, Nat.reduceEqDiff, reduceIte, Nat.reduceAdd, a7]) (by simp only [sV, Nat.reduceEqDiff, reduceIte, Nat.reduceAdd])
  simp only [sV, Nat.reduceEqDiff, reduceIte, Nat.reduceAdd, a4, a5] at b4 b5
  refine ⟨σ4, hf.trans hf4, ?_⟩
  simp only [B25_17, sA, reduceIte, Nat.reduceEqDiff, Int.reduceLT, Int.reduceLE, Int.reduceEq, Int.reduceNeg, reduceCtorEq, Nat.reduceAdd, b4, b5, b6]
  unfold sheetB
  rw [getD_at hi]
end
end Go.Ab.Dirs
end
