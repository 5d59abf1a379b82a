/- dirs.sheet, dirs.All. -/
import Derived.Test.YthbanbnmomcohaaGreatDoorY2
import Derived.Test.YthbanbnmomcohaaGreatDoorP24
set_option maxRecDepth 10000
noncomputable section
namespace Go.Ab.Dirs
open Go Go.Ab

/-- What HTML's own sheet says: a direction. -/
def sheetD (t : List ND) (i : Nat) : Option Nat :=
  if stateS (t.getD i dN).attrs = 2 then some 1 else if stateS (t.getD i dN).attrs = 1 then some 0
  else if stateS (t.getD i dN).attrs = 3 ∨ (t.getD i dN).name = [98, 100, 105] then some ((scanS t i).getD 0) else none
def sheetB (t : List ND) (i : Nat) : Nat :=
  if (t.getD i dN).name = [98, 100, 111] then 4 else if (sheetD t i).isSome = true ∨ endsS (kindS (t.getD i dN).name) = true then 2 else 0

section
variable {σ : St} {t : List ND} {tv : AVal} {e : Env} {r : Option (Out × Env × St)}

theorem sheet_a (ht : TreeI σ tv t) (hwf : ∀ n ∈ t, NWF n) (hk : KidsT t) {i : Nat} (hi : i < t.length) {b : Nat} {av kv : AVal} (hc : Copy σ b t[i] av kv) (hr : Ew TS false (.block 0 (.seq B25_4 B25_10)) e σ = r)
    (h0 : V e 0 = tv) (h1 : V e 1 = .int .i64 (i : Int)) (h4 : V e 4 = .int .u8 0) (h5 : V e 5 = .bool false) (h7 : V e 7 = .ptr b 0) (h8 : V e 8 = .int .u8 (stateS t[i].attrs : Int)) :
    ∃ e' σ', Fr σ σ' ∧ r = some (.normal, e', σ') ∧ V e' 4 = .int .u8 (((sheetD t i).getD 0 : Nat) : Int) ∧ V e' 5 = .bool (sheetD t i).isSome ∧ V e' 6 = V e 6 ∧ V e' 7 = V e 7 := by
  have hgi : t.getD i dN = t[i] := getD_at hi dN
  obtain ⟨⟨f, ty, hg⟩, -⟩ := id hc
  by_cases c2 : stateS t[i].attrs = 2
  · have hs : sheetD t i = some 1 := by unfold sheetD; rw [hgi, if_pos c2]
    have c2' := eq_true (show (stateS t[i].attrs : Int) = 2 by omega)
    simp only [B25_4, B25_10, sC, reduceIte, Nat.reduceEqDiff, stepOp, opMov, opArith, arith, sO, h8, c2'] at hr
    exact ⟨_, _, Fr.refl _, hr.symm, by simp only [V_U, Nat.reduceEqDiff, reduceIte, hs]; rfl, by simp only [V_U, Nat.reduceEqDiff, reduceIte, hs]; rfl, by simp only [V_U, Nat.reduceEqDiff, reduceIte], by simp only [V_U, Nat.reduceEqDiff, reduceIte]⟩
  · have c2' : ¬ (stateS t[i].attrs : Int) = 2 := by omega
    by_cases c1 : stateS t[i].attrs = 1
    · have hs : sheetD t i = some 0 := by unfold sheetD; rw [hgi, if_neg c2, if_pos c1]
      have c1' := eq_true (show (stateS t[i].attrs : Int) = 1 by omega)
      simp only [B25_4, B25_10, B25_5, B25_9, sC, reduceIte, Nat.reduceEqDiff, stepOp, opMov, opArith, arith, sO, h8, c2', c1'] at hr
      exact ⟨_, _, Fr.refl _, hr.symm, by simp only [V_U, Nat.reduceEqDiff, reduceIte, hs, h4]; rfl, by simp only [V_U, Nat.reduceEqDiff, reduceIte, hs]; rfl, by simp only [V_U, Nat.reduceEqDiff, reduceIte], by simp only [V_U, Nat.reduceEqDiff, reduceIte]⟩
    · have c1' : ¬ (stateS t[i].attrs : Int) = 1 := by omega
      obtain ⟨σ', hf, hsc⟩ := scan_ok ht hwf hk hi
      by_cases c3 : stateS t[i].attrs = 3
      · have hs : sheetD t i = some ((scanS t i).getD 0) := by unfold sheetD; rw [hgi, if_neg c2, if_neg c1, if_pos (.inl c3)]
        have c3' := eq_true (show (stateS t[i].attrs : Int) = 3 by omega)
        simp only [B25_4, B25_10, B25_5, B25_9, B25_6, B25_7, B25_8, sC, reduceIte, Nat.reduceEqDiff, stepOp, opMov, opArith, arith, sO, reduceCtorEq, h0, h1, h8, c2', c1', c3', opCall, argsOf, hsc, wayV, opExtract, dropX_zero, dropX_1] at hr
        exact ⟨_, _, hf, hr.symm, by simp only [V_U, Nat.reduceEqDiff, reduceIte, hs]; rfl, by simp only [V_U, Nat.reduceEqDiff, reduceIte, hs]; rfl, by simp only [V_U, Nat.reduceEqDiff, reduceIte], by simp only [V_U, Nat.reduceEqDiff, reduceIte]⟩
      · have c3' : ¬ (stateS t[i].attrs : Int) = 3 := by omega
        by_cases c4 : t[i].name = [98, 100, 105]
        · have hs : sheetD t i = some ((scanS t i).getD 0) := by unfold sheetD; rw [hgi, if_neg c2, if_neg c1, if_pos (.inr c4)]
          have c4' := eq_true c4
          simp only [B25_4, B25_10, B25_5, B25_9, B25_6, B25_7, B25_8, sC, reduceIte, Nat.reduceEqDiff, stepOp, opMov, opArith, arith, opStrop, strop, sO, reduceCtorEq, sM, h0, h1, h7, h8, c2', c1', c3', hg, c4', opCall, argsOf, hsc, wayV, opExtract] at hr
          exact ⟨_, _, hf, hr.symm, by simp only [V_U, Nat.reduceEqDiff, reduceIte, hs]; rfl, by simp only [V_U, Nat.reduceEqDiff, reduceIte, hs]; rfl, by simp only [V_U, Nat.reduceEqDiff, reduceIte], by simp only [V_U, Nat.reduceEqDiff, reduceIte, h7]⟩
        · have hs : sheetD t i = none := by unfold sheetD; rw [hgi, if_neg c2, if_neg c1, if_neg (fun h => h.elim c3 c4)]
          simp only [B25_4, B25_10, B25_5, B25_9, B25_6, B25_7, B25_8, sC, reduceIte, Nat.reduceEqDiff, stepOp, opMov, opArith, arith, opStrop, strop, sO, sM, h7, h8, c2', c1', c3', hg, c4] at hr
          exact ⟨_, _, Fr.refl _, hr.symm, by simp only [V_U, Nat.reduceEqDiff, reduceIte, hs, h4]; rfl, by simp only [V_U, Nat.reduceEqDiff, reduceIte, hs, h5]; rfl, by simp only [V_U, Nat.reduceEqDiff, reduceIte], by simp only [V_U, Nat.reduceEqDiff, reduceIte, h7]⟩

theorem sheet_b {n : ND} {av kv : AVal} {b k : Nat} {has : Bool} (hc : Copy σ b n av kv) (hr : Ew TS false (.block 1 (.seq B25_12 B25_16)) e σ = r) (h5 : V e 5 = .bool has) (h6 : V e 6 = .int .u8 0) (h7 : V e 7 = .ptr b 0) (h9 : V e 9 = .int .u8 (k : Int)) :
    ∃ e', r = some (.normal, e', σ) ∧ V e' 4 = V e 4 ∧ V e' 5 = V e 5 ∧ V e' 6 = .int .u8 (((if n.name = [98, 100, 111] then 4 else if has = true ∨ endsS k = true then 2 else 0 : Nat)) : Int) := by
  obtain ⟨⟨f, ty, hg⟩, -⟩ := id hc
  by_cases c1 : n.name = [98, 100, 111]
  · have c1' := eq_true c1
    rw [if_pos c1]
    simp only [B25_12, B25_16, sC, reduceIte, Nat.reduceEqDiff, stepOp, opMov, opStrop, strop, sO, sM, h7, hg, c1'] at hr
    exact ⟨_, hr.symm, by simp only [V_U, Nat.reduceEqDiff, reduceIte], by simp only [V_U, Nat.reduceEqDiff, reduceIte], by simp only [V_U, Nat.reduceEqDiff, reduceIte]; rfl⟩
  · rw [if_neg c1]
    cases has with
    | true =>
      rw [if_pos (.inl rfl)]
      simp only [B25_12, B25_16, B25_15, sC, reduceIte, Nat.reduceEqDiff, stepOp, opMov, opStrop, strop, sO, sM, h5, h7, hg, c1] at hr
      exact ⟨_, hr.symm, by simp only [V_U, Nat.reduceEqDiff, reduceIte], by simp only [V_U, Nat.reduceEqDiff, reduceIte, h5], by simp only [V_U, Nat.reduceEqDiff, reduceIte]; rfl⟩
    | false =>
      by_cases k1 : (1 : Int) ≤ (k : Int)
      · by_cases k2 : (k : Int) ≤ 4
        · have he : endsS k = true := by unfold endsS; simp; omega
          rw [if_pos (.inr he)]
          simp only [B25_12, B25_13, B25_14, B25_16, B25_15, sC, reduceIte, Nat.reduceEqDiff, stepOp, opMov, opPick, opArith, arith, opStrop, strop, sO, sM, h5, h7, h9, hg, c1, k1, k2] at hr
          exact ⟨_, hr.symm, by simp only [V_U, Nat.reduceEqDiff, reduceIte], by simp only [V_U, Nat.reduceEqDiff, reduceIte, h5], by simp only [V_U, Nat.reduceEqDiff, reduceIte]; rfl⟩
        · by_cases k8 : (k : Int) = 8
          · have he : endsS k = true := by unfold endsS; simp; omega
            have k8' := eq_true k8
            rw [if_pos (.inr he)]
            simp only [B25_12, B25_13, B25_14, B25_16, B25_15, sC, reduceIte, Nat.reduceEqDiff, stepOp, opMov, opPick, opArith, arith, opStrop, strop, sO, sM, h5, h7, h9, hg, c1, k1, k2, k8'] at hr
            exact ⟨_, hr.symm, by simp only [V_U, Nat.reduceEqDiff, reduceIte], by simp only [V_U, Nat.reduceEqDiff, reduceIte, h5], by simp only [V_U, Nat.reduceEqDiff, reduceIte]; rfl⟩
          · have he : endsS k = false := by unfold endsS; simp; omega
            rw [if_neg (by rw [he]; simp)]
            simp only [B25_12, B25_13, B25_14, B25_16, B25_15, sC, reduceIte, Nat.reduceEqDiff, stepOp, opMov, opPick, opArith, arith, opStrop, strop, sO, sM, h5, h7, h9, hg, c1, k1, k2, k8] at hr
            exact ⟨_, hr.symm, by simp only [V_U, Nat.reduceEqDiff, reduceIte], by simp only [V_U, Nat.reduceEqDiff, reduceIte, h5], by simp only [V_U, Nat.reduceEqDiff, reduceIte, h6]; rfl⟩
      · have k8 : ¬ (k : Int) = 8 := by omega
        have he : endsS k = false := by unfold endsS; simp; omega
        rw [if_neg (by rw [he]; simp)]
        simp only [B25_12, B25_13, B25_14, B25_16, B25_15, sC, reduceIte, Nat.reduceEqDiff, stepOp, undefA, opMov, opPick, opArith, arith, opStrop, strop, sO, sM, h5, h7, h9, hg, c1, k1, k8] at hr
        exact ⟨_, hr.symm, by simp only [V_U, Nat.reduceEqDiff, reduceIte], by simp only [V_U, Nat.reduceEqDiff, reduceIte, h5], by simp only [V_U, Nat.reduceEqDiff, reduceIte, h6]; rfl⟩

theorem sheet_ok (ht : TreeI σ tv t) (hwf : ∀ n ∈ t, NWF n) (hk : KidsT t) {i : Nat} (hi : i < t.length) :
    ∃ σ', Fr σ σ' ∧ Cw TS false 25 [tv, .int .i64 (i : Int)] σ = some (.tuple [.int .u8 (((sheetD t i).getD 0 : Nat) : Int), .bool (sheetD t i).isSome, .int .u8 ((sheetB t i : Nat) : Int)], σ') := by
  obtain ⟨av, kv, x1, x2⟩ := ht.get hi
  have x1 := x1 .i64
  have hn := hwf t[i] (List.getElem_mem _)
  have o1 := x2.attrs.one
  have o2 := x2.kids.one
  have hc := Copy.of (f := true) (t := 36) (zs := [.int .u8 0, .str [], .nils, .str [], .int .i64 0, .nils]) x2
  have hf2 : Fr σ ((σ.new (.cells true 36 [.int .u8 0, .str [], .nils, .str [], .int .i64 0, .nils])).put σ.next (.cells true 36 [.int .u8 (t[i].kind : Int), .str t[i].name, av, .str t[i].data, .int .i64 t[i].up, kv])) := (Fr.new _ _).put (Nat.le_refl _) _
  have x2l := x2.ld
  generalize e2 : (σ.new (.cells true 36 [.int .u8 0, .str [], .nils, .str [], .int .i64 0, .nils])).put σ.next (.cells true 36 [.int .u8 (t[i].kind : Int), .str t[i].name, av, .str t[i].data, .int .i64 t[i].up, kv]) = σ2 at hc hf2
  obtain ⟨⟨f, ty, hg⟩, -, hal, -⟩ := id hc
  obtain ⟨σ3, hf3, hs⟩ := state_ok (a := .int .u8 (t[i].kind : Int)) (b := .str t[i].name) (c := .str t[i].data) (d := .int .i64 t[i].up) (f := kv) t[i].attrs σ2 hn.alen hn.attrs hal
  have hf := hf2.trans hf3
  rw [Cw_of fn25 false _ σ rfl]
  simp only [c25, B25_1, B25_2, B25_3, sC, reduceIte, Nat.reduceEqDiff, stepOp, undefA, opMov, sO, reduceCtorEq, sF, Nat.reduceAdd, opAlloc, allOne, sM, x1, x2l, o1, o2, e2, hg, opCall, argsOf, hs]
  rw [← Ew_seq, ← Ew_block]
  generalize hr : Ew TS false (.block 0 (.seq B25_4 B25_10)) _ _ = r1
  obtain ⟨e1, σ4, hf4, rfl, a4, a5, a6, a7⟩ := sheet_a (ht.fr hf) hwf hk hi (hc.fr hf3) hr (by simp only [V_U, Nat.reduceEqDiff, reduceIte]) (by simp only [V_U, Nat.reduceEqDiff, reduceIte]) (by simp only [V_U, Nat.reduceEqDiff, reduceIte]) (by simp only [V_U, Nat.reduceEqDiff, reduceIte]) (by simp only [V_U, Nat.reduceEqDiff, reduceIte]) (by simp only [V_U, Nat.reduceEqDiff, reduceIte])
  simp only [V_U, Nat.reduceEqDiff, reduceIte] at a6 a7
  have hc4 := (hc.fr hf3).fr hf4
  obtain ⟨⟨f4, ty4, hg4⟩, -⟩ := id hc4
  have hK := Kind_ok false t[i].name σ4
  simp only [sC, reduceIte, Nat.reduceEqDiff, stepOp, opMov, sM, B25_11, a7, hg4, opCall, argsOf, hK]
  rw [← Ew_seq, ← Ew_block]
  generalize hr2 : Ew TS false (.block 1 (.seq B25_12 B25_16)) _ _ = r2
  obtain ⟨e5, rfl, b4, b5, b6⟩ := sheet_b (has := (sheetD t i).isSome) (k := kindS t[i].name) hc4 hr2 (by simp only [V_U, Nat.reduceEqDiff, reduceIte, a5]) (by simp only [V_U, Nat.reduceEqDiff, reduceIte, a6]) (by simp only [V_U, Nat.reduceEqDiff, reduceIte, a7]) (by simp only [V_U, Nat.reduceEqDiff, reduceIte])
  simp only [V_U, Nat.reduceEqDiff, reduceIte, a4, a5] at b4 b5
  refine ⟨σ4, hf.trans hf4, ?_⟩
  simp only [B25_17, sC, reduceIte, Nat.reduceEqDiff, stepOp, opMov, sF, b4, b5, b6]
  unfold sheetB
  rw [getD_at hi]
end
end Go.Ab.Dirs
end
