/- selvedgeref10.All, dirs.Sheet. -/
import Derived.Test.YthbanbnmomcohaaGreatDoorM32
import Derived.Test.YthbanbnmomcohaaGreatDoorM30
set_option linter.all false
set_option linter.unusedSimpArgs false
set_option maxRecDepth 100000
noncomputable section
namespace Go.Ab.Dirs
open Go Go.Ab

/-! Own rows of bytes. -/
def stB (σ : St) (b i w : Nat) : St := (stS σ 1 (.ptr b i) (.int .u8 (w : Int))).getD σ
section
variable {σ σ0 : St} {b : Nat} {l : List Nat} {i w : Nat}
theorem OwnB.ld (h : OwnB σ b l) (hi : i < l.length) : ldA σ none (.ptr b i) = some (.int .u8 ((l.getD i 0 : Nat) : Int)) := by
  obtain ⟨_, f, cs, hg, hl, ht⟩ := h
  have h1 : cs[i]? = some (.int .u8 ((l.getD i 0 : Nat) : Int)) := by
    have h2 := congrArg (fun x => x[i]?) ht
    simp only [List.getElem?_take, hi, if_true, List.getElem?_map] at h2
    rw [h2, List.getElem?_eq_getElem hi, getD_lt hi]; rfl
  obtain ⟨h3, h4⟩ := List.getElem?_eq_some_iff.1 h1
  rw [ldA_ptr, hg]
  simp only
  rw [dropX_get h3, h4]; rfl
theorem OwnB.stE (h : OwnB σ b l) (hi : i < l.length) : ∃ f cs, σ.get b = some (.cells f 5 cs) ∧ i < cs.length ∧ stS σ 1 (.ptr b i) (.int .u8 (w : Int)) = some (σ.put b (.cells f 5 (cs.set i (.int .u8 (w : Int))))) := by
  obtain ⟨_, f, cs, hg, hl, ht⟩ := h
  refine ⟨f, cs, hg, by omega, ?_⟩
  rw [stS_ptr, hg]
  simp only [cells_int, lenL_eq, List.length_cons, List.length_nil, Nat.zero_add, allOne, one_int, Bool.and_true, and_self, if_true, putX_set cs i _ (by omega : i < cs.length)]
theorem OwnB.st (h : OwnB σ b l) (hi : i < l.length) : stS σ 1 (.ptr b i) (.int .u8 (w : Int)) = some (stB σ b i w) := by
  obtain ⟨f, cs, _, _, h1⟩ := h.stE hi (w := w)
  unfold stB; rw [h1]; rfl
theorem OwnB.stB (h : OwnB σ b l) (hi : i < l.length) : OwnB (stB σ b i w) b (l.set i w) := by
  obtain ⟨f, cs, hg, hl, h1⟩ := h.stE hi (w := w)
  obtain ⟨hlt, f', cs', hg', hl', ht'⟩ := h
  rw [hg] at hg'; cases hg'
  unfold Dirs.stB; rw [h1]
  refine ⟨hlt, f, _, St.get_put_same _ _ _, by simpa using hl', ?_⟩
  rw [List.length_set, List.take_set, ht', List.map_set]
theorem OwnB.frB (h : OwnB σ b l) (hi : i < l.length) (hf : Fr σ0 σ) (hb : σ0.next ≤ b) : Fr σ0 (Dirs.stB σ b i w) := by
  obtain ⟨f, cs, hg, hl, h1⟩ := h.stE hi (w := w)
  unfold Dirs.stB; rw [h1]; exact hf.put hb _
end
theorem allG_snoc (t : List ND) : ∀ (m i : Nat) (out : List Nat), allG t (m + 1) i out = allStep t (i + m) (allG t m i out)
  | 0, i, out => rfl
  | m + 1, i, out => by
    show allG t (m + 1) (i + 1) (allStep t i out) = _
    rw [allG_snoc t m (i + 1), show i + 1 + m = i + (m + 1) by omega]; rfl
theorem allG_len (t : List ND) : ∀ (m i : Nat) (out : List Nat), (allG t m i out).length = out.length
  | 0, i, out => rfl
  | m + 1, i, out => by
    show (allG t m (i + 1) (allStep t i out)).length = _
    rw [allG_len t m, allStep_len]

section
variable {σ s0 : St} {t : List ND} {tv : AVal}
set_option maxHeartbeats 8000000 in
theorem rAll_ok (ht : TreeI σ tv t) (hwf : ∀ n ∈ t, NWF n) (hsh : Short t) (hf0 : Fr σ s0) : CW TS false 12 [tv] s0 fun v s => Fr σ s ∧ ((rightS t = false ∧ v = .tuple [.nils, .int .i64 53]) ∨ (rightS t = true ∧ ∃ b, s0.next ≤ b ∧ OwnB s b (allS t) ∧ v = .tuple [.slice b 0 t.length 1, .int .i64 0] ∧ Fr s0 s)) := by
  refine CW_of fn12 rfl ?_
  repeat' (first | ((first | apply RG_step | apply DG_step | apply DG_read); focus (intro hgd; have hgd2 := hgd; (try simp only [sB] at hgd); (try simp only [sP] at hgd2); simp (maxSteps := 1000000) (disch := (first | omega | assumption | exact Fr.refl _)) only [hgd, sR, reduceIte, Nat.reduceEqDiff, Int.reduceLT, Int.reduceLE, Int.reduceEq, Int.reduceNeg, reduceCtorEq, Nat.reduceAdd, Int.reduceToNat, c12, B12_8]; exact StepIs_refl)) | ((first | refine Br_intro ?_ ?_ | refine BrB_intro ?_ ?_) <;> intro hbr hbe <;> simp (maxSteps := 1000000) (disch := (first | omega | assumption | exact Fr.refl _)) only [hbe, sR, reduceIte, Nat.reduceEqDiff, Int.reduceLT, Int.reduceLE, Int.reduceEq, Int.reduceNeg, reduceCtorEq, Nat.reduceAdd, Int.reduceToNat, c12, B12_8] <;> clear hbe) | simp (maxSteps := 1000000) (disch := (first | omega | assumption | exact Fr.refl _)) only [sR, reduceIte, Nat.reduceEqDiff, Int.reduceLT, Int.reduceLE, Int.reduceEq, Int.reduceNeg, reduceCtorEq, Nat.reduceAdd, Int.reduceToNat, c12, B12_8])
  refine Bd_call (rRight_ok (ht.fr hf0) hwf) ?_
  rintro _ s1 ⟨rfl, hf1⟩
  cases hR : rightS t with
  | false =>
    repeat' (first | ((first | apply RG_step | apply DG_step | apply DG_read); focus (intro hgd; have hgd2 := hgd; (try simp only [sB] at hgd); (try simp only [sP] at hgd2); simp (maxSteps := 1000000) (disch := (first | omega | assumption | exact Fr.refl _)) only [hgd, sR, reduceIte, Nat.reduceEqDiff, Int.reduceLT, Int.reduceLE, Int.reduceEq, Int.reduceNeg, reduceCtorEq, Nat.reduceAdd, Int.reduceToNat, B12_9]; exact StepIs_refl)) | ((first | refine Br_intro ?_ ?_ | refine BrB_intro ?_ ?_) <;> intro hbr hbe <;> simp (maxSteps := 1000000) (disch := (first | omega | assumption | exact Fr.refl _)) only [hbe, sR, reduceIte, Nat.reduceEqDiff, Int.reduceLT, Int.reduceLE, Int.reduceEq, Int.reduceNeg, reduceCtorEq, Nat.reduceAdd, Int.reduceToNat, B12_9] <;> clear hbe) | simp (maxSteps := 1000000) (disch := (first | omega | assumption | exact Fr.refl _)) only [sR, reduceIte, Nat.reduceEqDiff, Int.reduceLT, Int.reduceLE, Int.reduceEq, Int.reduceNeg, reduceCtorEq, Nat.reduceAdd, Int.reduceToNat, B12_9])
    exact ⟨hf0.trans hf1, .inl trivial⟩
  | true =>
    have hP := rightP_iff.2 hR
    have hU := hP.sh.upsR
    obtain ⟨hk, hp, hN⟩ := head_k hP.sh.head
    repeat' (first | ((first | apply RG_step | apply DG_step | apply DG_read); focus (intro hgd; have hgd2 := hgd; (try simp only [sB] at hgd); (try simp only [sP] at hgd2); simp (maxSteps := 1000000) (disch := (first | omega | assumption | exact Fr.refl _)) only [hgd, sR, reduceIte, Nat.reduceEqDiff, Int.reduceLT, Int.reduceLE, Int.reduceEq, Int.reduceNeg, reduceCtorEq, Nat.reduceAdd, Int.reduceToNat, B12_9, B12_10, ht.len, opMkSlice_s, mkS_nat]; exact StepIs_refl)) | ((first | refine Br_intro ?_ ?_ | refine BrB_intro ?_ ?_) <;> intro hbr hbe <;> simp (maxSteps := 1000000) (disch := (first | omega | assumption | exact Fr.refl _)) only [hbe, sR, reduceIte, Nat.reduceEqDiff, Int.reduceLT, Int.reduceLE, Int.reduceEq, Int.reduceNeg, reduceCtorEq, Nat.reduceAdd, Int.reduceToNat, B12_9, B12_10, ht.len, opMkSlice_s, mkS_nat] <;> clear hbe) | simp (maxSteps := 1000000) (disch := (first | omega | assumption | exact Fr.refl _)) only [sR, reduceIte, Nat.reduceEqDiff, Int.reduceLT, Int.reduceLE, Int.reduceEq, Int.reduceNeg, reduceCtorEq, Nat.reduceAdd, Int.reduceToNat, B12_9, B12_10, ht.len, opMkSlice_s, mkS_nat])
    have hb : s0.next ≤ s1.next := hf1.next
    have hO : OwnB (s1.new (.cells true 5 (rep [.int .u8 0] t.length))) s1.next (allG t 0 1 (List.replicate t.length 0)) := by
      refine ⟨Nat.lt_succ_self _, true, _, St.get_new_same _ _, ?_, ?_⟩
      · rw [rep_b, allG_len]; simp
      · rw [rep_b, allG_len, List.take_of_length_le (by simp)]; rfl
    generalize s1.next = b at *
    refine W_loop (fun n e s => ∃ i : Nat, i + 1 + n = t.length ∧ Fr s0 s ∧ OwnB s b (allG t i 1 (List.replicate t.length 0)) ∧ V e 0 = tv ∧ V e 4 = .slice b 0 t.length 1 ∧ V e 5 = .int .i64 ((i + 1 : Nat) : Int)) (t.length - 1) ⟨0, by omega, hf1.trans (Fr.new _ _), hO, by simp only [sV, Nat.reduceEqDiff, reduceIte, Nat.reduceAdd], by simp only [sV, Nat.reduceEqDiff, reduceIte, Nat.reduceAdd], by simp only [sV, Nat.reduceEqDiff, reduceIte, Nat.reduceAdd]; rfl⟩ ?_
    clear hO hf1
    rintro n e s ⟨i, hin, hf, hO, v0, v4, v5⟩
    have hol : (allG t i 1 (List.replicate t.length 0)).length = t.length := by rw [allG_len]; simp
    have hf' := hf0.trans hf
    repeat' (first | ((first | apply RG_step | apply DG_step | apply DG_read); focus (intro hgd; have hgd2 := hgd; (try simp only [sB] at hgd); (try simp only [sP] at hgd2); simp (maxSteps := 1000000) (disch := (first | omega | assumption | exact Fr.refl _)) only [hgd, sR, reduceIte, Nat.reduceEqDiff, Int.reduceLT, Int.reduceLE, Int.reduceEq, Int.reduceNeg, reduceCtorEq, Nat.reduceAdd, Int.reduceToNat, L12_1, B12_1, v0, v4, v5, ht.len]; exact StepIs_refl)) | ((first | refine Br_intro ?_ ?_ | refine BrB_intro ?_ ?_) <;> intro hbr hbe <;> simp (maxSteps := 1000000) (disch := (first | omega | assumption | exact Fr.refl _)) only [hbe, sR, reduceIte, Nat.reduceEqDiff, Int.reduceLT, Int.reduceLE, Int.reduceEq, Int.reduceNeg, reduceCtorEq, Nat.reduceAdd, Int.reduceToNat, L12_1, B12_1, v0, v4, v5, ht.len] <;> clear hbe) | simp (maxSteps := 1000000) (disch := (first | omega | assumption | exact Fr.refl _)) only [sR, reduceIte, Nat.reduceEqDiff, Int.reduceLT, Int.reduceLE, Int.reduceEq, Int.reduceNeg, reduceCtorEq, Nat.reduceAdd, Int.reduceToNat, L12_1, B12_1, v0, v4, v5, ht.len])
    · have hi : i + 1 < t.length := by omega
      obtain ⟨u, hu, hlt⟩ := hU (i + 1) (by omega) hi
      repeat' (first | ((first | apply RG_step | apply DG_step | apply DG_read); focus (intro hgd; have hgd2 := hgd; (try simp only [sB] at hgd); (try simp only [sP] at hgd2); simp (maxSteps := 1000000) (disch := (first | omega | assumption | exact Fr.refl _)) only [hgd, sR, reduceIte, Nat.reduceEqDiff, Int.reduceLT, Int.reduceLE, Int.reduceEq, Int.reduceNeg, reduceCtorEq, Nat.reduceAdd, Int.reduceToNat, B12_6, B12_2, v0, v4, v5, ht.ixz, ht.a4, ht.n4, hu, ixS_sl, hO.ld, hO.st, Nat.mul_one]; exact StepIs_refl)) | ((first | refine Br_intro ?_ ?_ | refine BrB_intro ?_ ?_) <;> intro hbr hbe <;> simp (maxSteps := 1000000) (disch := (first | omega | assumption | exact Fr.refl _)) only [hbe, sR, reduceIte, Nat.reduceEqDiff, Int.reduceLT, Int.reduceLE, Int.reduceEq, Int.reduceNeg, reduceCtorEq, Nat.reduceAdd, Int.reduceToNat, B12_6, B12_2, v0, v4, v5, ht.ixz, ht.a4, ht.n4, hu, ixS_sl, hO.ld, hO.st, Nat.mul_one] <;> clear hbe) | simp (maxSteps := 1000000) (disch := (first | omega | assumption | exact Fr.refl _)) only [sR, reduceIte, Nat.reduceEqDiff, Int.reduceLT, Int.reduceLE, Int.reduceEq, Int.reduceNeg, reduceCtorEq, Nat.reduceAdd, Int.reduceToNat, B12_6, B12_2, v0, v4, v5, ht.ixz, ht.a4, ht.n4, hu, ixS_sl, hO.ld, hO.st, Nat.mul_one])
      have hO2 := hO.stB (i := i + 1) (w := (allG t i 1 (List.replicate t.length 0)).getD u 0) (by omega)
      have hf2 := hO.frB (i := i + 1) (w := (allG t i 1 (List.replicate t.length 0)).getD u 0) (by omega) hf hb
      generalize stB s b (i + 1) ((allG t i 1 (List.replicate t.length 0)).getD u 0) = s2 at *
      have hf2' := hf0.trans hf2
      have hstep : allG t (i + 1) 1 (List.replicate t.length 0) = allStep t (i + 1) (allG t i 1 (List.replicate t.length 0)) := by rw [allG_snoc, Nat.add_comm]
      have hst : allStep t (i + 1) (allG t i 1 (List.replicate t.length 0)) = if (t.getD (i + 1) nd0).kind = 1 then (match sheetD t (i + 1) with | some w => ((allG t i 1 (List.replicate t.length 0)).set (i + 1) ((allG t i 1 (List.replicate t.length 0)).getD u 0)).set (i + 1) w | none => (allG t i 1 (List.replicate t.length 0)).set (i + 1) ((allG t i 1 (List.replicate t.length 0)).getD u 0)) else (allG t i 1 (List.replicate t.length 0)).set (i + 1) ((allG t i 1 (List.replicate t.length 0)).getD u 0) := by
        unfold allStep
        rw [show (t.getD (i + 1) dN).up = (u : Int) from hu, Int.toNat_natCast]; rfl
      rw [hst] at hstep
      repeat' (first | ((first | apply RG_step | apply DG_step | apply DG_read); focus (intro hgd; have hgd2 := hgd; (try simp only [sB] at hgd); (try simp only [sP] at hgd2); simp (maxSteps := 1000000) (disch := (first | omega | assumption | exact Fr.refl _)) only [hgd, sR, reduceIte, Nat.reduceEqDiff, Int.reduceLT, Int.reduceLE, Int.reduceEq, Int.reduceNeg, reduceCtorEq, Nat.reduceAdd, Int.reduceToNat, B12_3, v0, v4, v5, ht.ixz, ht.a0, ht.n0]; exact StepIs_refl)) | ((first | refine Br_intro ?_ ?_ | refine BrB_intro ?_ ?_) <;> intro hbr hbe <;> simp (maxSteps := 1000000) (disch := (first | omega | assumption | exact Fr.refl _)) only [hbe, sR, reduceIte, Nat.reduceEqDiff, Int.reduceLT, Int.reduceLE, Int.reduceEq, Int.reduceNeg, reduceCtorEq, Nat.reduceAdd, Int.reduceToNat, B12_3, v0, v4, v5, ht.ixz, ht.a0, ht.n0] <;> clear hbe) | simp (maxSteps := 1000000) (disch := (first | omega | assumption | exact Fr.refl _)) only [sR, reduceIte, Nat.reduceEqDiff, Int.reduceLT, Int.reduceLE, Int.reduceEq, Int.reduceNeg, reduceCtorEq, Nat.reduceAdd, Int.reduceToNat, B12_3, v0, v4, v5, ht.ixz, ht.a0, ht.n0])
      · rw [if_pos (by omega)] at hstep
        repeat' (first | ((first | apply RG_step | apply DG_step | apply DG_read); focus (intro hgd; have hgd2 := hgd; (try simp only [sB] at hgd); (try simp only [sP] at hgd2); simp (maxSteps := 1000000) (disch := (first | omega | assumption | exact Fr.refl _)) only [hgd, sR, reduceIte, Nat.reduceEqDiff, Int.reduceLT, Int.reduceLE, Int.reduceEq, Int.reduceNeg, reduceCtorEq, Nat.reduceAdd, Int.reduceToNat, B12_4, v0, v5]; exact StepIs_refl)) | ((first | refine Br_intro ?_ ?_ | refine BrB_intro ?_ ?_) <;> intro hbr hbe <;> simp (maxSteps := 1000000) (disch := (first | omega | assumption | exact Fr.refl _)) only [hbe, sR, reduceIte, Nat.reduceEqDiff, Int.reduceLT, Int.reduceLE, Int.reduceEq, Int.reduceNeg, reduceCtorEq, Nat.reduceAdd, Int.reduceToNat, B12_4, v0, v5] <;> clear hbe) | simp (maxSteps := 1000000) (disch := (first | omega | assumption | exact Fr.refl _)) only [sR, reduceIte, Nat.reduceEqDiff, Int.reduceLT, Int.reduceLE, Int.reduceEq, Int.reduceNeg, reduceCtorEq, Nat.reduceAdd, Int.reduceToNat, B12_4, v0, v5])
        refine Bd_call (rSheet_ok (ht.fr hf2') hwf hsh hR hi (Fr.refl _)) ?_
        rintro _ s3 ⟨rfl, hf3⟩
        have hO3 := hO2.fr hf3
        have hf4 := hf2.trans hf3
        cases hd : sheetD t (i + 1) with
        | none =>
          rw [hd] at hstep
          repeat' (first | ((first | apply RG_step | apply DG_step | apply DG_read); focus (intro hgd; have hgd2 := hgd; (try simp only [sB] at hgd); (try simp only [sP] at hgd2); simp (maxSteps := 1000000) (disch := (first | omega | assumption | exact Fr.refl _)) only [hgd, sR, reduceIte, Nat.reduceEqDiff, Int.reduceLT, Int.reduceLE, Int.reduceEq, Int.reduceNeg, reduceCtorEq, Nat.reduceAdd, Int.reduceToNat, B12_5, B12_7, v0, v4, v5, sheetV, opExtract, Option.getD_none, Option.isSome_none, w_add1]; exact StepIs_refl)) | ((first | refine Br_intro ?_ ?_ | refine BrB_intro ?_ ?_) <;> intro hbr hbe <;> simp (maxSteps := 1000000) (disch := (first | omega | assumption | exact Fr.refl _)) only [hbe, sR, reduceIte, Nat.reduceEqDiff, Int.reduceLT, Int.reduceLE, Int.reduceEq, Int.reduceNeg, reduceCtorEq, Nat.reduceAdd, Int.reduceToNat, B12_5, B12_7, v0, v4, v5, sheetV, opExtract, Option.getD_none, Option.isSome_none, w_add1] <;> clear hbe) | simp (maxSteps := 1000000) (disch := (first | omega | assumption | exact Fr.refl _)) only [sR, reduceIte, Nat.reduceEqDiff, Int.reduceLT, Int.reduceLE, Int.reduceEq, Int.reduceNeg, reduceCtorEq, Nat.reduceAdd, Int.reduceToNat, B12_5, B12_7, v0, v4, v5, sheetV, opExtract, Option.getD_none, Option.isSome_none, w_add1])
          exact ⟨n - 1, by omega, i + 1, by omega, hf4, by rw [hstep]; exact hO3, by simp only [sV, Nat.reduceEqDiff, reduceIte, Nat.reduceAdd, v0], by simp only [sV, Nat.reduceEqDiff, reduceIte, Nat.reduceAdd, v4], by simp only [sV, Nat.reduceEqDiff, reduceIte, Nat.reduceAdd]⟩
        | some w =>
          rw [hd] at hstep
          have hl3 : ((allG t i 1 (List.replicate t.length 0)).set (i + 1) ((allG t i 1 (List.replicate t.length 0)).getD u 0)).length = t.length := by rw [List.length_set, hol]
          repeat' (first | ((first | apply RG_step | apply DG_step | apply DG_read); focus (intro hgd; have hgd2 := hgd; (try simp only [sB] at hgd); (try simp only [sP] at hgd2); simp (maxSteps := 1000000) (disch := (first | omega | assumption | exact Fr.refl _)) only [hgd, sR, reduceIte, Nat.reduceEqDiff, Int.reduceLT, Int.reduceLE, Int.reduceEq, Int.reduceNeg, reduceCtorEq, Nat.reduceAdd, Int.reduceToNat, B12_5, B12_7, v0, v4, v5, sheetV, opExtract, Option.getD_some, Option.isSome_some, w_add1, ixS_sl, hO3.st, Nat.mul_one, List.length_set]; exact StepIs_refl)) | ((first | refine Br_intro ?_ ?_ | refine BrB_intro ?_ ?_) <;> intro hbr hbe <;> simp (maxSteps := 1000000) (disch := (first | omega | assumption | exact Fr.refl _)) only [hbe, sR, reduceIte, Nat.reduceEqDiff, Int.reduceLT, Int.reduceLE, Int.reduceEq, Int.reduceNeg, reduceCtorEq, Nat.reduceAdd, Int.reduceToNat, B12_5, B12_7, v0, v4, v5, sheetV, opExtract, Option.getD_some, Option.isSome_some, w_add1, ixS_sl, hO3.st, Nat.mul_one, List.length_set] <;> clear hbe) | simp (maxSteps := 1000000) (disch := (first | omega | assumption | exact Fr.refl _)) only [sR, reduceIte, Nat.reduceEqDiff, Int.reduceLT, Int.reduceLE, Int.reduceEq, Int.reduceNeg, reduceCtorEq, Nat.reduceAdd, Int.reduceToNat, B12_5, B12_7, v0, v4, v5, sheetV, opExtract, Option.getD_some, Option.isSome_some, w_add1, ixS_sl, hO3.st, Nat.mul_one, List.length_set])
          exact ⟨n - 1, by omega, i + 1, by omega, hO3.frB (by simp; omega) hf4 hb, by rw [hstep]; exact hO3.stB (by simp; omega), by simp only [sV, Nat.reduceEqDiff, reduceIte, Nat.reduceAdd, v0], by simp only [sV, Nat.reduceEqDiff, reduceIte, Nat.reduceAdd, v4], by simp only [sV, Nat.reduceEqDiff, reduceIte, Nat.reduceAdd]⟩
      · rw [if_neg (by omega)] at hstep
        repeat' (first | ((first | apply RG_step | apply DG_step | apply DG_read); focus (intro hgd; have hgd2 := hgd; (try simp only [sB] at hgd); (try simp only [sP] at hgd2); simp (maxSteps := 1000000) (disch := (first | omega | assumption | exact Fr.refl _)) only [hgd, sR, reduceIte, Nat.reduceEqDiff, Int.reduceLT, Int.reduceLE, Int.reduceEq, Int.reduceNeg, reduceCtorEq, Nat.reduceAdd, Int.reduceToNat, B12_7, v0, v4, v5, w_add1]; exact StepIs_refl)) | ((first | refine Br_intro ?_ ?_ | refine BrB_intro ?_ ?_) <;> intro hbr hbe <;> simp (maxSteps := 1000000) (disch := (first | omega | assumption | exact Fr.refl _)) only [hbe, sR, reduceIte, Nat.reduceEqDiff, Int.reduceLT, Int.reduceLE, Int.reduceEq, Int.reduceNeg, reduceCtorEq, Nat.reduceAdd, Int.reduceToNat, B12_7, v0, v4, v5, w_add1] <;> clear hbe) | simp (maxSteps := 1000000) (disch := (first | omega | assumption | exact Fr.refl _)) only [sR, reduceIte, Nat.reduceEqDiff, Int.reduceLT, Int.reduceLE, Int.reduceEq, Int.reduceNeg, reduceCtorEq, Nat.reduceAdd, Int.reduceToNat, B12_7, v0, v4, v5, w_add1])
        exact ⟨n - 1, by omega, i + 1, by omega, hf2, by rw [hstep]; exact hO2, by simp only [sV, Nat.reduceEqDiff, reduceIte, Nat.reduceAdd, v0], by simp only [sV, Nat.reduceEqDiff, reduceIte, Nat.reduceAdd, v4], by simp only [sV, Nat.reduceEqDiff, reduceIte, Nat.reduceAdd]⟩
    · repeat' (first | ((first | apply RG_step | apply DG_step | apply DG_read); focus (intro hgd; have hgd2 := hgd; (try simp only [sB] at hgd); (try simp only [sP] at hgd2); simp (maxSteps := 1000000) (disch := (first | omega | assumption | exact Fr.refl _)) only [hgd, sR, reduceIte, Nat.reduceEqDiff, Int.reduceLT, Int.reduceLE, Int.reduceEq, Int.reduceNeg, reduceCtorEq, Nat.reduceAdd, Int.reduceToNat, B12_11, v0, v4, v5]; exact StepIs_refl)) | ((first | refine Br_intro ?_ ?_ | refine BrB_intro ?_ ?_) <;> intro hbr hbe <;> simp (maxSteps := 1000000) (disch := (first | omega | assumption | exact Fr.refl _)) only [hbe, sR, reduceIte, Nat.reduceEqDiff, Int.reduceLT, Int.reduceLE, Int.reduceEq, Int.reduceNeg, reduceCtorEq, Nat.reduceAdd, Int.reduceToNat, B12_11, v0, v4, v5] <;> clear hbe) | simp (maxSteps := 1000000) (disch := (first | omega | assumption | exact Fr.refl _)) only [sR, reduceIte, Nat.reduceEqDiff, Int.reduceLT, Int.reduceLE, Int.reduceEq, Int.reduceNeg, reduceCtorEq, Nat.reduceAdd, Int.reduceToNat, B12_11, v0, v4, v5])
      refine ⟨hf', .inr ⟨b, hb, ?_, rfl, hf⟩⟩
      unfold allS; rw [show t.length - 1 = i by omega]; exact hO

theorem pSheet_ok (ht : TreeI σ tv t) (hwf : ∀ n ∈ t, NWF n) {i : Int} (hf0 : Fr σ s0) : CW TS false 17 [tv, .int .i64 i] s0 fun v s => Fr σ s ∧ v = if elemS t i = true then sheetV (sheetD t i.toNat) (sheetB t i.toNat) else sheetV none 0 := by
  refine CW_of fn17 rfl ?_
  repeat' (first | ((first | apply RG_step | apply DG_step | apply DG_read); focus (intro hgd; have hgd2 := hgd; (try simp only [sB] at hgd); (try simp only [sP] at hgd2); simp (maxSteps := 1000000) (disch := (first | omega | assumption | exact Fr.refl _)) only [hgd, sR, reduceIte, Nat.reduceEqDiff, Int.reduceLT, Int.reduceLE, Int.reduceEq, Int.reduceNeg, reduceCtorEq, Nat.reduceAdd, Int.reduceToNat, c17]; exact StepIs_refl)) | ((first | refine Br_intro ?_ ?_ | refine BrB_intro ?_ ?_) <;> intro hbr hbe <;> simp (maxSteps := 1000000) (disch := (first | omega | assumption | exact Fr.refl _)) only [hbe, sR, reduceIte, Nat.reduceEqDiff, Int.reduceLT, Int.reduceLE, Int.reduceEq, Int.reduceNeg, reduceCtorEq, Nat.reduceAdd, Int.reduceToNat, c17] <;> clear hbe) | simp (maxSteps := 1000000) (disch := (first | omega | assumption | exact Fr.refl _)) only [sR, reduceIte, Nat.reduceEqDiff, Int.reduceLT, Int.reduceLE, Int.reduceEq, Int.reduceNeg, reduceCtorEq, Nat.reduceAdd, Int.reduceToNat, c17])
  refine Bd_call (CW_fr (element_ok (ht.fr hf0) hwf i)) ?_
  rintro _ s1 ⟨rfl, hf1⟩
  have hf1 := hf0.trans hf1
  repeat' (first | ((first | apply RG_step | apply DG_step | apply DG_read); focus (intro hgd; have hgd2 := hgd; (try simp only [sB] at hgd); (try simp only [sP] at hgd2); simp (maxSteps := 1000000) (disch := (first | omega | assumption | exact Fr.refl _)) only [hgd, sR, reduceIte, Nat.reduceEqDiff, Int.reduceLT, Int.reduceLE, Int.reduceEq, Int.reduceNeg, reduceCtorEq, Nat.reduceAdd, Int.reduceToNat]; exact StepIs_refl)) | ((first | refine Br_intro ?_ ?_ | refine BrB_intro ?_ ?_) <;> intro hbr hbe <;> simp (maxSteps := 1000000) (disch := (first | omega | assumption | exact Fr.refl _)) only [hbe, sR, reduceIte, Nat.reduceEqDiff, Int.reduceLT, Int.reduceLE, Int.reduceEq, Int.reduceNeg, reduceCtorEq, Nat.reduceAdd, Int.reduceToNat] <;> clear hbe) | simp (maxSteps := 1000000) (disch := (first | omega | assumption | exact Fr.refl _)) only [sR, reduceIte, Nat.reduceEqDiff, Int.reduceLT, Int.reduceLE, Int.reduceEq, Int.reduceNeg, reduceCtorEq, Nat.reduceAdd, Int.reduceToNat])
  · have he := hbr
    unfold elemS at he
    simp only [Bool.and_eq_true, decide_eq_true_eq] at he
    obtain ⟨h1, h2, h3, h4⟩ := he
    obtain ⟨z, rfl⟩ := Int.eq_ofNat_of_zero_le (by omega : 0 ≤ i)
    refine Bd_call (CW_fr (sheet_ok (ht.fr hf1) hwf (right_facts h4).1 (by omega : z < t.length))) ?_
    rintro _ s2 ⟨rfl, hf2⟩
    repeat' (first | ((first | apply RG_step | apply DG_step | apply DG_read); focus (intro hgd; have hgd2 := hgd; (try simp only [sB] at hgd); (try simp only [sP] at hgd2); simp (maxSteps := 1000000) (disch := (first | omega | assumption | exact Fr.refl _)) only [hgd, sR, reduceIte, Nat.reduceEqDiff, Int.reduceLT, Int.reduceLE, Int.reduceEq, Int.reduceNeg, reduceCtorEq, Nat.reduceAdd, Int.reduceToNat, opExtract, hbr, Int.toNat_natCast]; exact StepIs_refl)) | ((first | refine Br_intro ?_ ?_ | refine BrB_intro ?_ ?_) <;> intro hbr hbe <;> simp (maxSteps := 1000000) (disch := (first | omega | assumption | exact Fr.refl _)) only [hbe, sR, reduceIte, Nat.reduceEqDiff, Int.reduceLT, Int.reduceLE, Int.reduceEq, Int.reduceNeg, reduceCtorEq, Nat.reduceAdd, Int.reduceToNat, opExtract, hbr, Int.toNat_natCast] <;> clear hbe) | simp (maxSteps := 1000000) (disch := (first | omega | assumption | exact Fr.refl _)) only [sR, reduceIte, Nat.reduceEqDiff, Int.reduceLT, Int.reduceLE, Int.reduceEq, Int.reduceNeg, reduceCtorEq, Nat.reduceAdd, Int.reduceToNat, opExtract, hbr, Int.toNat_natCast])
    exact ⟨hf1.trans hf2, rfl⟩
  · exact ⟨hf1, rfl⟩
end
end Go.Ab.Dirs
end

set_option maxRecDepth 10000
noncomputable section
namespace Go.Ab.Dirs
open Go Go.Ab

theorem works_ok (q : Bool) (σ : St) : Cw TS q 10 [] σ = some (.bool true, σ) := Cw_iff.2 ⟨5, by kernel_rfl⟩

theorem NWF.alen' {t : List ND} (h : ∀ n ∈ t, NWF n) : ∀ n ∈ t, n.attrs.length < 9223372036854775808 := fun n hn => (h n hn).alen

theorem pick_range {n : Int} {b : Nat} (hb : 0 < b) : ∃ i : Nat, (if (b : Int) ≤ 0 then 0 else (n.tmod (b : Int) + (b : Int)).tmod (b : Int)) = (i : Int) ∧ i < b := by
  rw [if_neg (by omega)]
  have h0 : 0 ≤ n.tmod (b : Int) + (b : Int) := by
    have := Int.lt_tmod_of_pos n (show (0 : Int) < (b : Int) by omega); omega
  have h1 : 0 ≤ (n.tmod (b : Int) + (b : Int)).tmod (b : Int) := Int.tmod_nonneg _ h0
  have h2 : (n.tmod (b : Int) + (b : Int)).tmod (b : Int) < (b : Int) := Int.tmod_lt_of_pos _ (by omega)
  exact ⟨((n.tmod (b : Int) + (b : Int)).tmod (b : Int)).toNat, by omega, by omega⟩

end Go.Ab.Dirs
end

set_option maxRecDepth 100000
noncomputable section
namespace Go.Ab.Dirs
open Go Go.Ab

theorem eqV_bool (a b : Bool) : eqV .bool (.bool a) (.bool b) = some (a == b) := by simp only [eqV]
theorem OwnB.ix {σ : St} {b : Nat} {l : List Nat} (h : OwnB σ b l) {i : Nat} (hi : i < l.length) : ldA σ none (.ptr b (0 + i * 1)) = some (.int .u8 ((l.getD i 0 : Nat) : Int)) := by
  rw [Nat.zero_add, Nat.mul_one]; exact h.ld hi
theorem All_cw {σ s0 : St} {t : List ND} {tv : AVal} (ht : TreeI σ tv t) (hwf : ∀ n ∈ t, NWF n) (hf0 : Fr σ s0) : CW TS false 11 [tv] s0 fun v s => Fr s0 s ∧ ((rightS t = false ∧ v = .tuple [.nils, .int .i64 53]) ∨ (rightS t = true ∧ ∃ b, s0.next ≤ b ∧ OwnB s b (allS t) ∧ (allS t).length = t.length ∧ v = .tuple [.slice b 0 t.length 1, .int .i64 0])) := by
  obtain ⟨s, hf, ⟨h1, h2⟩ | ⟨h1, b, h2, h3, h4, h5⟩⟩ := All_ok (ht.fr hf0) hwf
  · exact CW_iff.2 ⟨_, s, h2, hf, .inl ⟨h1, rfl⟩⟩
  · exact CW_iff.2 ⟨_, s, h5, hf, .inr ⟨h1, b, h2, h3, h4, rfl⟩⟩

set_option maxHeartbeats 8000000 in
theorem DirsAll_true {σ : St} {t : List ND} {tv : AVal} (ht : TreeI σ tv t) (hwf : ∀ n ∈ t, NWF n) (hB : BT 140737488355328 t) : CW TS false 3 [tv] σ fun v _ => v = .bool true := by
  refine CW_of fn3 rfl ?_
  repeat' (first | ((first | apply RG_step | apply DG_step | apply DG_read); focus (intro hgd; have hgd2 := hgd; (try simp only [sB] at hgd); (try simp only [sP] at hgd2); simp (maxSteps := 1000000) (disch := (first | omega | assumption | exact Fr.refl _)) only [hgd, sR, reduceIte, Nat.reduceEqDiff, Int.reduceLT, Int.reduceLE, Int.reduceEq, Int.reduceNeg, reduceCtorEq, Nat.reduceAdd, Int.reduceToNat, c3, B3_4, ht.len, works_ok]; exact StepIs_refl)) | ((first | refine Br_intro ?_ ?_ | refine BrB_intro ?_ ?_) <;> intro hbr hbe <;> simp (maxSteps := 1000000) (disch := (first | omega | assumption | exact Fr.refl _)) only [hbe, sR, reduceIte, Nat.reduceEqDiff, Int.reduceLT, Int.reduceLE, Int.reduceEq, Int.reduceNeg, reduceCtorEq, Nat.reduceAdd, Int.reduceToNat, c3, B3_4, ht.len, works_ok] <;> clear hbe) | simp (maxSteps := 1000000) (disch := (first | omega | assumption | exact Fr.refl _)) only [sR, reduceIte, Nat.reduceEqDiff, Int.reduceLT, Int.reduceLE, Int.reduceEq, Int.reduceNeg, reduceCtorEq, Nat.reduceAdd, Int.reduceToNat, c3, B3_4, ht.len, works_ok])
  (refine RG_split ?_ ?_ <;> intro hs <;> have hs2 := hs <;> (try simp only [sB] at hs) <;> (try simp only [sP] at hs2))
  · repeat' (first | ((first | apply RG_step | apply DG_step | apply DG_read); focus (intro hgd; have hgd2 := hgd; (try simp only [sB] at hgd); (try simp only [sP] at hgd2); simp (maxSteps := 1000000) (disch := (first | omega | assumption | exact Fr.refl _)) only [hgd, sR, reduceIte, Nat.reduceEqDiff, Int.reduceLT, Int.reduceLE, Int.reduceEq, Int.reduceNeg, reduceCtorEq, Nat.reduceAdd, Int.reduceToNat, hs]; exact StepIs_refl)) | ((first | refine Br_intro ?_ ?_ | refine BrB_intro ?_ ?_) <;> intro hbr hbe <;> simp (maxSteps := 1000000) (disch := (first | omega | assumption | exact Fr.refl _)) only [hbe, sR, reduceIte, Nat.reduceEqDiff, Int.reduceLT, Int.reduceLE, Int.reduceEq, Int.reduceNeg, reduceCtorEq, Nat.reduceAdd, Int.reduceToNat, hs] <;> clear hbe) | simp (maxSteps := 1000000) (disch := (first | omega | assumption | exact Fr.refl _)) only [sR, reduceIte, Nat.reduceEqDiff, Int.reduceLT, Int.reduceLE, Int.reduceEq, Int.reduceNeg, reduceCtorEq, Nat.reduceAdd, Int.reduceToNat, hs])
    refine Bd_call (Size_sm ht hB (top := 10000) (by omega)) ?_
    rintro _ _ ⟨r, rfl, rfl, hsm⟩
    repeat' (first | ((first | apply RG_step | apply DG_step | apply DG_read); focus (intro hgd; have hgd2 := hgd; (try simp only [sB] at hgd); (try simp only [sP] at hgd2); simp (maxSteps := 1000000) (disch := (first | omega | assumption | exact Fr.refl _)) only [hgd, sR, reduceIte, Nat.reduceEqDiff, Int.reduceLT, Int.reduceLE, Int.reduceEq, Int.reduceNeg, reduceCtorEq, Nat.reduceAdd, Int.reduceToNat, B3_5, B3_6, hs, works_ok]; exact StepIs_refl)) | ((first | refine Br_intro ?_ ?_ | refine BrB_intro ?_ ?_) <;> intro hbr hbe <;> simp (maxSteps := 1000000) (disch := (first | omega | assumption | exact Fr.refl _)) only [hbe, sR, reduceIte, Nat.reduceEqDiff, Int.reduceLT, Int.reduceLE, Int.reduceEq, Int.reduceNeg, reduceCtorEq, Nat.reduceAdd, Int.reduceToNat, B3_5, B3_6, hs, works_ok] <;> clear hbe) | simp (maxSteps := 1000000) (disch := (first | omega | assumption | exact Fr.refl _)) only [sR, reduceIte, Nat.reduceEqDiff, Int.reduceLT, Int.reduceLE, Int.reduceEq, Int.reduceNeg, reduceCtorEq, Nat.reduceAdd, Int.reduceToNat, B3_5, B3_6, hs, works_ok])
    refine Bd_call (All_cw ht hwf (Fr.refl _)) ?_
    have hsh := (hsm (by omega)).short
    rintro _ s1 ⟨hf1, ⟨hR, rfl⟩ | ⟨hR, b, hb, hO, hal, rfl⟩⟩
    · repeat' (first | ((first | apply RG_step | apply DG_step | apply DG_read); focus (intro hgd; have hgd2 := hgd; (try simp only [sB] at hgd); (try simp only [sP] at hgd2); simp (maxSteps := 1000000) (disch := (first | omega | assumption | exact Fr.refl _)) only [hgd, sR, reduceIte, Nat.reduceEqDiff, Int.reduceLT, Int.reduceLE, Int.reduceEq, Int.reduceNeg, reduceCtorEq, Nat.reduceAdd, Int.reduceToNat, opExtract, B3_7]; exact StepIs_refl)) | ((first | refine Br_intro ?_ ?_ | refine BrB_intro ?_ ?_) <;> intro hbr hbe <;> simp (maxSteps := 1000000) (disch := (first | omega | assumption | exact Fr.refl _)) only [hbe, sR, reduceIte, Nat.reduceEqDiff, Int.reduceLT, Int.reduceLE, Int.reduceEq, Int.reduceNeg, reduceCtorEq, Nat.reduceAdd, Int.reduceToNat, opExtract, B3_7] <;> clear hbe) | simp (maxSteps := 1000000) (disch := (first | omega | assumption | exact Fr.refl _)) only [sR, reduceIte, Nat.reduceEqDiff, Int.reduceLT, Int.reduceLE, Int.reduceEq, Int.reduceNeg, reduceCtorEq, Nat.reduceAdd, Int.reduceToNat, opExtract, B3_7])
      refine Bd_call (rAll_ok ht hwf hsh hf1) ?_
      rintro _ s2 ⟨hf2, ⟨_, rfl⟩ | ⟨hR', _⟩⟩
      · repeat' (first | ((first | apply RG_step | apply DG_step | apply DG_read); focus (intro hgd; have hgd2 := hgd; (try simp only [sB] at hgd); (try simp only [sP] at hgd2); simp (maxSteps := 1000000) (disch := (first | omega | assumption | exact Fr.refl _)) only [hgd, sR, reduceIte, Nat.reduceEqDiff, Int.reduceLT, Int.reduceLE, Int.reduceEq, Int.reduceNeg, reduceCtorEq, Nat.reduceAdd, Int.reduceToNat, opExtract, B3_8, lenS, Int.natCast_zero]; exact StepIs_refl)) | ((first | refine Br_intro ?_ ?_ | refine BrB_intro ?_ ?_) <;> intro hbr hbe <;> simp (maxSteps := 1000000) (disch := (first | omega | assumption | exact Fr.refl _)) only [hbe, sR, reduceIte, Nat.reduceEqDiff, Int.reduceLT, Int.reduceLE, Int.reduceEq, Int.reduceNeg, reduceCtorEq, Nat.reduceAdd, Int.reduceToNat, opExtract, B3_8, lenS, Int.natCast_zero] <;> clear hbe) | simp (maxSteps := 1000000) (disch := (first | omega | assumption | exact Fr.refl _)) only [sR, reduceIte, Nat.reduceEqDiff, Int.reduceLT, Int.reduceLE, Int.reduceEq, Int.reduceNeg, reduceCtorEq, Nat.reduceAdd, Int.reduceToNat, opExtract, B3_8, lenS, Int.natCast_zero])
        refine W_loop (fun _ e _ => V e 3 = .nils ∧ V e 7 = .int .i64 0) 0 ⟨by simp only [sV, Nat.reduceEqDiff, reduceIte, Nat.reduceAdd], by simp only [sV, Nat.reduceEqDiff, reduceIte, Nat.reduceAdd]⟩ ?_
        rintro n e s ⟨v3, v7⟩
        repeat' (first | ((first | apply RG_step | apply DG_step | apply DG_read); focus (intro hgd; have hgd2 := hgd; (try simp only [sB] at hgd); (try simp only [sP] at hgd2); simp (maxSteps := 1000000) (disch := (first | omega | assumption | exact Fr.refl _)) only [hgd, sR, reduceIte, Nat.reduceEqDiff, Int.reduceLT, Int.reduceLE, Int.reduceEq, Int.reduceNeg, reduceCtorEq, Nat.reduceAdd, Int.reduceToNat, L3_1, B3_1, v3, v7, lenS, Int.lt_irrefl, works_ok]; exact StepIs_refl)) | ((first | refine Br_intro ?_ ?_ | refine BrB_intro ?_ ?_) <;> intro hbr hbe <;> simp (maxSteps := 1000000) (disch := (first | omega | assumption | exact Fr.refl _)) only [hbe, sR, reduceIte, Nat.reduceEqDiff, Int.reduceLT, Int.reduceLE, Int.reduceEq, Int.reduceNeg, reduceCtorEq, Nat.reduceAdd, Int.reduceToNat, L3_1, B3_1, v3, v7, lenS, Int.lt_irrefl, works_ok] <;> clear hbe) | simp (maxSteps := 1000000) (disch := (first | omega | assumption | exact Fr.refl _)) only [sR, reduceIte, Nat.reduceEqDiff, Int.reduceLT, Int.reduceLE, Int.reduceEq, Int.reduceNeg, reduceCtorEq, Nat.reduceAdd, Int.reduceToNat, L3_1, B3_1, v3, v7, lenS, Int.lt_irrefl, works_ok])
      · rw [hR] at hR'; exact absurd hR' (by decide)
    · repeat' (first | ((first | apply RG_step | apply DG_step | apply DG_read); focus (intro hgd; have hgd2 := hgd; (try simp only [sB] at hgd); (try simp only [sP] at hgd2); simp (maxSteps := 1000000) (disch := (first | omega | assumption | exact Fr.refl _)) only [hgd, sR, reduceIte, Nat.reduceEqDiff, Int.reduceLT, Int.reduceLE, Int.reduceEq, Int.reduceNeg, reduceCtorEq, Nat.reduceAdd, Int.reduceToNat, opExtract, B3_7]; exact StepIs_refl)) | ((first | refine Br_intro ?_ ?_ | refine BrB_intro ?_ ?_) <;> intro hbr hbe <;> simp (maxSteps := 1000000) (disch := (first | omega | assumption | exact Fr.refl _)) only [hbe, sR, reduceIte, Nat.reduceEqDiff, Int.reduceLT, Int.reduceLE, Int.reduceEq, Int.reduceNeg, reduceCtorEq, Nat.reduceAdd, Int.reduceToNat, opExtract, B3_7] <;> clear hbe) | simp (maxSteps := 1000000) (disch := (first | omega | assumption | exact Fr.refl _)) only [sR, reduceIte, Nat.reduceEqDiff, Int.reduceLT, Int.reduceLE, Int.reduceEq, Int.reduceNeg, reduceCtorEq, Nat.reduceAdd, Int.reduceToNat, opExtract, B3_7])
      refine Bd_call (rAll_ok ht hwf hsh hf1) ?_
      rintro _ s2 ⟨hf2, ⟨hR', _⟩ | ⟨_, b2, hb2, hO2, rfl, hf12⟩⟩
      · rw [hR] at hR'; exact absurd hR' (by decide)
      · repeat' (first | ((first | apply RG_step | apply DG_step | apply DG_read); focus (intro hgd; have hgd2 := hgd; (try simp only [sB] at hgd); (try simp only [sP] at hgd2); simp (maxSteps := 1000000) (disch := (first | omega | assumption | exact Fr.refl _)) only [hgd, sR, reduceIte, Nat.reduceEqDiff, Int.reduceLT, Int.reduceLE, Int.reduceEq, Int.reduceNeg, reduceCtorEq, Nat.reduceAdd, Int.reduceToNat, opExtract, B3_8, lenS, Int.ofNat_eq_natCast]; exact StepIs_refl)) | ((first | refine Br_intro ?_ ?_ | refine BrB_intro ?_ ?_) <;> intro hbr hbe <;> simp (maxSteps := 1000000) (disch := (first | omega | assumption | exact Fr.refl _)) only [hbe, sR, reduceIte, Nat.reduceEqDiff, Int.reduceLT, Int.reduceLE, Int.reduceEq, Int.reduceNeg, reduceCtorEq, Nat.reduceAdd, Int.reduceToNat, opExtract, B3_8, lenS, Int.ofNat_eq_natCast] <;> clear hbe) | simp (maxSteps := 1000000) (disch := (first | omega | assumption | exact Fr.refl _)) only [sR, reduceIte, Nat.reduceEqDiff, Int.reduceLT, Int.reduceLE, Int.reduceEq, Int.reduceNeg, reduceCtorEq, Nat.reduceAdd, Int.reduceToNat, opExtract, B3_8, lenS, Int.ofNat_eq_natCast])
        have hO := hO.fr hf12
        have e1 : lenS (.slice b 0 t.length 1) = some (.int .i64 (t.length : Int)) := rfl
        have e2 : lenS (.slice b2 0 t.length 1) = some (.int .i64 (t.length : Int)) := rfl
        refine W_loop (fun n e s => ∃ i : Nat, i + n = t.length ∧ s = s2 ∧ V e 3 = .slice b 0 t.length 1 ∧ V e 5 = .slice b2 0 t.length 1 ∧ V e 7 = .int .i64 (i : Int)) t.length ⟨0, by omega, rfl, by simp only [sV, Nat.reduceEqDiff, reduceIte, Nat.reduceAdd], by simp only [sV, Nat.reduceEqDiff, reduceIte, Nat.reduceAdd], by simp only [sV, Nat.reduceEqDiff, reduceIte, Nat.reduceAdd]; rfl⟩ ?_
        rintro n e s ⟨i, hin, rfl, v3, v5, v7⟩
        repeat' (first | ((first | apply RG_step | apply DG_step | apply DG_read); focus (intro hgd; have hgd2 := hgd; (try simp only [sB] at hgd); (try simp only [sP] at hgd2); simp (maxSteps := 1000000) (disch := (first | omega | assumption | exact Fr.refl _)) only [hgd, sR, reduceIte, Nat.reduceEqDiff, Int.reduceLT, Int.reduceLE, Int.reduceEq, Int.reduceNeg, reduceCtorEq, Nat.reduceAdd, Int.reduceToNat, L3_1, B3_1, v3, v5, v7, e1, e2]; exact StepIs_refl)) | ((first | refine Br_intro ?_ ?_ | refine BrB_intro ?_ ?_) <;> intro hbr hbe <;> simp (maxSteps := 1000000) (disch := (first | omega | assumption | exact Fr.refl _)) only [hbe, sR, reduceIte, Nat.reduceEqDiff, Int.reduceLT, Int.reduceLE, Int.reduceEq, Int.reduceNeg, reduceCtorEq, Nat.reduceAdd, Int.reduceToNat, L3_1, B3_1, v3, v5, v7, e1, e2] <;> clear hbe) | simp (maxSteps := 1000000) (disch := (first | omega | assumption | exact Fr.refl _)) only [sR, reduceIte, Nat.reduceEqDiff, Int.reduceLT, Int.reduceLE, Int.reduceEq, Int.reduceNeg, reduceCtorEq, Nat.reduceAdd, Int.reduceToNat, L3_1, B3_1, v3, v5, v7, e1, e2])
        · repeat' (first | ((first | apply RG_step | apply DG_step | apply DG_read); focus (intro hgd; have hgd2 := hgd; (try simp only [sB] at hgd); (try simp only [sP] at hgd2); simp (maxSteps := 1000000) (disch := (first | omega | assumption | exact Fr.refl _)) only [hgd, sR, reduceIte, Nat.reduceEqDiff, Int.reduceLT, Int.reduceLE, Int.reduceEq, Int.reduceNeg, reduceCtorEq, Nat.reduceAdd, Int.reduceToNat, B3_2, B3_3, v3, v5, v7, ixS_sl, hO.ld, hO2.ld, Nat.mul_one, w_add1]; exact StepIs_refl)) | ((first | refine Br_intro ?_ ?_ | refine BrB_intro ?_ ?_) <;> intro hbr hbe <;> simp (maxSteps := 1000000) (disch := (first | omega | assumption | exact Fr.refl _)) only [hbe, sR, reduceIte, Nat.reduceEqDiff, Int.reduceLT, Int.reduceLE, Int.reduceEq, Int.reduceNeg, reduceCtorEq, Nat.reduceAdd, Int.reduceToNat, B3_2, B3_3, v3, v5, v7, ixS_sl, hO.ld, hO2.ld, Nat.mul_one, w_add1] <;> clear hbe) | simp (maxSteps := 1000000) (disch := (first | omega | assumption | exact Fr.refl _)) only [sR, reduceIte, Nat.reduceEqDiff, Int.reduceLT, Int.reduceLE, Int.reduceEq, Int.reduceNeg, reduceCtorEq, Nat.reduceAdd, Int.reduceToNat, B3_2, B3_3, v3, v5, v7, ixS_sl, hO.ld, hO2.ld, Nat.mul_one, w_add1])
          exact ⟨n - 1, by omega, i + 1, by omega, rfl, by simp only [sV, Nat.reduceEqDiff, reduceIte, Nat.reduceAdd, v3], by simp only [sV, Nat.reduceEqDiff, reduceIte, Nat.reduceAdd, v5], by simp only [sV, Nat.reduceEqDiff, reduceIte, Nat.reduceAdd]⟩
        · repeat' (first | ((first | apply RG_step | apply DG_step | apply DG_read); focus (intro hgd; have hgd2 := hgd; (try simp only [sB] at hgd); (try simp only [sP] at hgd2); simp (maxSteps := 1000000) (disch := (first | omega | assumption | exact Fr.refl _)) only [hgd, sR, reduceIte, Nat.reduceEqDiff, Int.reduceLT, Int.reduceLE, Int.reduceEq, Int.reduceNeg, reduceCtorEq, Nat.reduceAdd, Int.reduceToNat, works_ok]; exact StepIs_refl)) | ((first | refine Br_intro ?_ ?_ | refine BrB_intro ?_ ?_) <;> intro hbr hbe <;> simp (maxSteps := 1000000) (disch := (first | omega | assumption | exact Fr.refl _)) only [hbe, sR, reduceIte, Nat.reduceEqDiff, Int.reduceLT, Int.reduceLE, Int.reduceEq, Int.reduceNeg, reduceCtorEq, Nat.reduceAdd, Int.reduceToNat, works_ok] <;> clear hbe) | simp (maxSteps := 1000000) (disch := (first | omega | assumption | exact Fr.refl _)) only [sR, reduceIte, Nat.reduceEqDiff, Int.reduceLT, Int.reduceLE, Int.reduceEq, Int.reduceNeg, reduceCtorEq, Nat.reduceAdd, Int.reduceToNat, works_ok])
  · repeat' (first | ((first | apply RG_step | apply DG_step | apply DG_read); focus (intro hgd; have hgd2 := hgd; (try simp only [sB] at hgd); (try simp only [sP] at hgd2); simp (maxSteps := 1000000) (disch := (first | omega | assumption | exact Fr.refl _)) only [hgd, sR, reduceIte, Nat.reduceEqDiff, Int.reduceLT, Int.reduceLE, Int.reduceEq, Int.reduceNeg, reduceCtorEq, Nat.reduceAdd, Int.reduceToNat, hs, B3_5, works_ok]; exact StepIs_refl)) | ((first | refine Br_intro ?_ ?_ | refine BrB_intro ?_ ?_) <;> intro hbr hbe <;> simp (maxSteps := 1000000) (disch := (first | omega | assumption | exact Fr.refl _)) only [hbe, sR, reduceIte, Nat.reduceEqDiff, Int.reduceLT, Int.reduceLE, Int.reduceEq, Int.reduceNeg, reduceCtorEq, Nat.reduceAdd, Int.reduceToNat, hs, B3_5, works_ok] <;> clear hbe) | simp (maxSteps := 1000000) (disch := (first | omega | assumption | exact Fr.refl _)) only [sR, reduceIte, Nat.reduceEqDiff, Int.reduceLT, Int.reduceLE, Int.reduceEq, Int.reduceNeg, reduceCtorEq, Nat.reduceAdd, Int.reduceToNat, hs, B3_5, works_ok])
end Go.Ab.Dirs
end
