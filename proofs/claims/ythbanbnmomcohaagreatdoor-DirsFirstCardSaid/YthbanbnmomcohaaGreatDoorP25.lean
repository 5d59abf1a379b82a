/- DirsFirst, walked. -/
import Derived.Test.YthbanbnmomcohaaGreatDoorP24
set_option maxRecDepth 10000
noncomputable section
namespace Go.Ab.Dirs
open Go Go.Ab

theorem works_ok (q : Bool) (σ : St) : Cw TS q 10 [] σ = some (.bool true, σ) := Cw_iff.2 ⟨5, by kernel_rfl⟩

theorem nilsI {σ : St} : IntsI σ .nils [] := ⟨trivial, rfl⟩
theorem nilsA {σ : St} : AttrsI σ .nils [] := ⟨trivial, rfl⟩

def zN : List AVal := [.int .u8 0, .str [], .nils, .str [], .int .i64 0, .nils]
def n3a (b : Nat) : List AVal := [.int .u8 0, .str [], .nils, .str [], .int .i64 (-1), .slice b 0 1 1]
def n3b (b : Nat) : List AVal := [.int .u8 1, .str [112], .nils, .str [], .int .i64 0, .slice b 0 1 1]
def n3c (d : List Nat) : List AVal := [.int .u8 2, .str [], .nils, .str d, .int .i64 1, .nils]
theorem fill_a (b : Nat) : fillL [(4, 1, .int .i64 (-1)), (5, 1, .slice b 0 1 1)] 0 [.int .u8 0, .str [], .nils, .str [], .int .i64 0, .nils] = some (n3a b) := by kernel_rfl
theorem fill_b (b : Nat) : fillL [(0, 1, .int .u8 1), (1, 1, .str [112]), (5, 1, .slice b 0 1 1)] 0 [.int .u8 0, .str [], .nils, .str [], .int .i64 0, .nils] = some (n3b b) := by kernel_rfl
theorem fill_c (d : List Nat) : fillL [(0, 1, .int .u8 2), (3, 1, .str d), (4, 1, .int .i64 1)] 0 [.int .u8 0, .str [], .nils, .str [], .int .i64 0, .nils] = some (n3c d) := by kernel_rfl
theorem fill_3 (b c : Nat) (d : List Nat) : fillL [(0, 6, .agg (n3a b)), (6, 6, .agg (n3b c)), (12, 6, .agg (n3c d))] 0 [.int .u8 0, .str [], .nils, .str [], .int .i64 0, .nils, .int .u8 0, .str [], .nils, .str [], .int .i64 0, .nils, .int .u8 0, .str [], .nils, .str [], .int .i64 0, .nils] = some (n3a b ++ (n3b c ++ (n3c d ++ []))) := by kernel_rfl

theorem t3_tree (σ : St) (d : List Nat) : TreeI (((σ.new (.cells true 3 [.int .i64 1])).new (.cells true 3 [.int .i64 2])).new (.cells true 36 (n3a σ.next ++ (n3b (σ.new (.cells true 3 [.int .i64 1])).next ++ (n3c d ++ []))))) (.slice ((σ.new (.cells true 3 [.int .i64 1])).new (.cells true 3 [.int .i64 2])).next 0 3 6) (t3 d) := by
  refine ⟨n3a σ.next ++ (n3b (σ.new (.cells true 3 [.int .i64 1])).next ++ (n3c d ++ [])), ⟨Nat.lt_succ_self _, ?_⟩, ?_⟩
  · simp only [cellsIn, St.get_new_same, if_true]
    rw [sub_eq.2 ⟨by show 0 + 3 * 6 ≤ 18; decide, rfl⟩]
    rfl
  · have k1 : OwnI (σ.new (.cells true 3 [.int .i64 1])) σ.next [1] := ⟨Nat.lt_succ_self _, true, _, St.get_new_same _ _, Nat.le_refl _, rfl⟩
    have k2 : OwnI ((σ.new (.cells true 3 [.int .i64 1])).new (.cells true 3 [.int .i64 2])) (σ.new (.cells true 3 [.int .i64 1])).next [2] := ⟨Nat.lt_succ_self _, true, _, St.get_new_same _ _, Nat.le_refl _, rfl⟩
    exact .cons ⟨rfl, nilsA, ((k1.fr (Fr.new _ _)).fr (Fr.new _ _)).ints⟩ (.cons ⟨rfl, nilsA, (k2.fr (Fr.new _ _)).ints⟩ (.cons ⟨rfl, nilsA, nilsI⟩ .nil))

theorem t3_wf {d : List Nat} (h : SWF d) : ∀ n ∈ t3 d, NWF n := by
  intro n hn
  simp only [t3, List.mem_cons, List.not_mem_nil, or_false] at hn
  have s0 : SWF [] := ⟨fun c hc => by simp at hc, by decide⟩
  have s1 : SWF [112] := ⟨fun c hc => by simp at hc; omega, by decide⟩
  rcases hn with rfl | rfl | rfl
  · exact ⟨s0, s0, fun a ha => by simp at ha, by decide, by decide⟩
  · exact ⟨s1, s0, fun a ha => by simp at ha, by decide, by decide⟩
  · exact ⟨s0, h, fun a ha => by simp at ha, by show 0 < 9223372036854775808; decide, by show 0 < 9223372036854775808; decide⟩

section
variable {σ0 : St} {t : List ND} {tv : AVal}

/-- What a child tells is asked. -/
theorem first_6 (ht : TreeI σ0 tv t) (hwf : ∀ n ∈ t, NWF n) (hR : rightS t = true) {j : Nat} (hj : 0 < j) (hjt : j < t.length) {σ : St} {e : Env} {r : Option (Out × Env × St)} (hf : Fr σ0 σ)
    (hr : Ew TS false (.seq B5_3 B5_6) e σ = r) (h0 : V e 0 = tv) (h9 : V e 9 = .int .i64 (j : Int)) (h10 : V e 10 = .int .u8 0) (h11 : V e 11 = .bool false) :
    ∃ e' σ', Fr σ0 σ' ∧ r = some (.normal, e', σ') ∧ V e' 10 = .int .u8 (((toldS t j).getD 0 : Nat) : Int) ∧ V e' 11 = .bool (toldS t j).isSome ∧ V e' 0 = tv ∧ V e' 5 = V e 5 ∧ V e' 6 = V e 6 ∧ V e' 7 = V e 7 ∧ V e' 8 = V e 8 := by
  obtain ⟨av, kv, x1, x2⟩ := (ht.fr hf).get hjt
  have x1 := x1 .i64
  rcases node_facts hR hj hjt with ⟨a, b, c⟩ | ⟨a, b⟩
  · have a' := eq_true (show (t[j].kind : Int) = 2 by omega)
    have hfr : Fr σ (((σ.new (.cells true 3 [.int .i64 1])).new (.cells true 3 [.int .i64 2])).new (.cells true 36 (n3a σ.next ++ (n3b (σ.new (.cells true 3 [.int .i64 1])).next ++ (n3c t[j].data ++ []))))) := ((Fr.new _ _).trans (Fr.new _ _)).trans (Fr.new _ _)
    obtain ⟨av2, kv2, y1, y2⟩ := ((ht.fr hf).fr ((Fr.new σ (.cells true 3 [.int .i64 1])).trans (Fr.new _ (.cells true 3 [.int .i64 2])))).get hjt
    have y1 := y1 .i64
    obtain ⟨σ', hf', hs⟩ := Scan_ok (t3_tree σ t[j].data) (t3_wf (hwf t[j] (List.getElem_mem _)).data) 1
    rw [t3_scan b c] at hs
    have ht' : toldS t j = firstS t[j].data := by unfold toldS; rw [getD_at hjt, if_pos a]
    simp only [sC, reduceIte, Nat.reduceEqDiff, stepOp, opMov, opArith, arith, sO, Int.reduceNeg, reduceCtorEq, B5_3, B5_6, opIaSl_s, opFieldAddr_s, opLoad_s, h0, h9, x1, x2.f0, x2.l0, a', opBuildSlice_s, bsS, fillL_int1, List.map_cons, List.map_nil, Bool.false_eq_true, opBuild, fill_a, fill_b, y2.f3, y2.l3, fill_c, fill_3, opCall, argsOf, hs, wayV, opExtract, dropX_zero, dropX_1] at hr
    refine ⟨_, _, (hf.trans hfr).trans hf', hr.symm, ?_, ?_, by simp only [V_U, Nat.reduceEqDiff, reduceIte, h0], by simp only [V_U, Nat.reduceEqDiff, reduceIte], by simp only [V_U, Nat.reduceEqDiff, reduceIte], by simp only [V_U, Nat.reduceEqDiff, reduceIte], by simp only [V_U, Nat.reduceEqDiff, reduceIte]⟩
    · simp only [V_U, Nat.reduceEqDiff, reduceIte, ht']
    · simp only [V_U, Nat.reduceEqDiff, reduceIte, ht']
  · have a' : ¬ (t[j].kind : Int) = 2 := by omega
    have ht' : toldS t j = if t[j].name ≠ [98, 100, 105] ∧ StateS t (j : Int) = 0 then ScanS t (j : Int) else none := by unfold toldS; rw [getD_at hjt, if_neg (by omega)]
    by_cases c1 : t[j].name = [98, 100, 105]
    · have c1' := eq_true c1
      have hn : toldS t j = none := by rw [ht', if_neg (fun h => h.1 c1)]
      simp only [sC, reduceIte, Nat.reduceEqDiff, stepOp, undefA, opMov, opPick, opArith, arith, opStrop, strop, sO, Int.reduceNeg, reduceCtorEq, B5_3, B5_4, B5_5, B5_6, opIaSl_s, opFieldAddr_s, opLoad_s, h0, h9, x1, x2.f0, x2.l0, x2.f1, x2.l1, a', c1'] at hr
      exact ⟨_, _, hf, hr.symm, by simp only [V_U, Nat.reduceEqDiff, reduceIte, h10, hn]; rfl, by simp only [V_U, Nat.reduceEqDiff, reduceIte, h11, hn]; rfl, by simp only [V_U, Nat.reduceEqDiff, reduceIte, h0], by simp only [V_U, Nat.reduceEqDiff, reduceIte], by simp only [V_U, Nat.reduceEqDiff, reduceIte], by simp only [V_U, Nat.reduceEqDiff, reduceIte], by simp only [V_U, Nat.reduceEqDiff, reduceIte]⟩
    · obtain ⟨σ1, hf1, hst⟩ := State_ok (ht.fr hf) hwf (j : Int)
      by_cases c2 : (StateS t (j : Int) : Int) = 0
      · have c2' := eq_true c2
        obtain ⟨σ2, hf2, hsc⟩ := Scan_ok (ht.fr (hf.trans hf1)) hwf (j : Int)
        have hn : toldS t j = ScanS t (j : Int) := by rw [ht', if_pos ⟨c1, by omega⟩]
        simp only [sC, reduceIte, Nat.reduceEqDiff, stepOp, opMov, opPick, opArith, arith, opStrop, strop, sO, Int.reduceNeg, reduceCtorEq, B5_3, B5_4, B5_5, B5_6, opIaSl_s, opFieldAddr_s, opLoad_s, h0, h9, x1, x2.f0, x2.l0, x2.f1, x2.l1, a', c1, opCall, argsOf, hst, c2', hsc, wayV, opExtract, dropX_zero, dropX_1] at hr
        exact ⟨_, _, (hf.trans hf1).trans hf2, hr.symm, by simp only [V_U, Nat.reduceEqDiff, reduceIte, hn], by simp only [V_U, Nat.reduceEqDiff, reduceIte, hn], by simp only [V_U, Nat.reduceEqDiff, reduceIte, h0], by simp only [V_U, Nat.reduceEqDiff, reduceIte], by simp only [V_U, Nat.reduceEqDiff, reduceIte], by simp only [V_U, Nat.reduceEqDiff, reduceIte], by simp only [V_U, Nat.reduceEqDiff, reduceIte]⟩
      · have hn : toldS t j = none := by rw [ht', if_neg (fun h => c2 (by rw [h.2]; rfl))]
        simp only [sC, reduceIte, Nat.reduceEqDiff, stepOp, opMov, opPick, opArith, arith, opStrop, strop, sO, Int.reduceNeg, reduceCtorEq, B5_3, B5_4, B5_5, B5_6, opIaSl_s, opFieldAddr_s, opLoad_s, h0, h9, x1, x2.f0, x2.l0, x2.f1, x2.l1, a', c1, opCall, argsOf, hst, c2] at hr
        exact ⟨_, _, hf.trans hf1, hr.symm, by simp only [V_U, Nat.reduceEqDiff, reduceIte, h10, hn]; rfl, by simp only [V_U, Nat.reduceEqDiff, reduceIte, h11, hn]; rfl, by simp only [V_U, Nat.reduceEqDiff, reduceIte, h0], by simp only [V_U, Nat.reduceEqDiff, reduceIte], by simp only [V_U, Nat.reduceEqDiff, reduceIte], by simp only [V_U, Nat.reduceEqDiff, reduceIte], by simp only [V_U, Nat.reduceEqDiff, reduceIte]⟩

set_option maxHeartbeats 2000000 in
theorem first_loop (ht : TreeI σ0 tv t) (hwf : ∀ n ∈ t, NWF n) (hR : rightS t = true) {i : Nat} (hi : i < t.length) {o : Option Nat} : ∀ (m k : Nat) (σ : St) (e : Env) (r : Option (Out × Env × St)), k + m = t[i].kids.length → Fr σ0 σ → o = scanL (toldS t) (t[i].kids.drop k) → Ew TS false (.loop L5_1) e σ = r →
    V e 0 = tv → V e 5 = .int .i64 (i : Int) → V e 6 = .int .u8 ((o.getD 0 : Nat) : Int) → V e 7 = .bool o.isSome → V e 8 = .int .i64 (k : Int) →
    ∃ e' σ', (r = some (.exit 0, e', σ') ∧ V e' 7 = .bool false) ∨ (r = some (.ret, e', σ') ∧ V e' 4 = .bool true)
  | 0, k, σ, e, r, hk, hf, ho, hr, h0, h5, h6, h7, h8 => by
    obtain ⟨av, kv, x1, x2⟩ := (ht.fr hf).get hi
    have x1 := x1 .i64
    have hl := SlI.len x2.kids
    have hlt : ¬ ((k : Int) < (t[i].kids.length : Int)) := by omega
    rw [List.drop_eq_nil_of_le (by omega)] at ho
    rw [Ew_loop] at hr
    simp only [L5_1, B5_1, sC, reduceIte, Nat.reduceEqDiff, stepOp, opMov, opArith, arith, sO, reduceCtorEq, opIaSl_s, opFieldAddr_s, opLoad_s, h0, h5, h8, x1, x2.f5, x2.l5, hl, hlt] at hr
    exact ⟨_, _, .inl ⟨hr.symm, by simp only [V_U, Nat.reduceEqDiff, reduceIte, h7, ho]; rfl⟩⟩
  | m + 1, k, σ, e, r, hk, hf, ho, hr, h0, h5, h6, h7, h8 => by
    obtain ⟨av, kv, x1, x2⟩ := (ht.fr hf).get hi
    have x1 := x1 .i64
    have hl := SlI.len x2.kids
    have hlt : ((k : Int) < (t[i].kids.length : Int)) := by omega
    have hkl : k < t[i].kids.length := by omega
    have hn := (hwf t[i] (List.getElem_mem _)).klen
    have hw : wrapI .i64 ((k : Int) + 1) = ((k + 1 : Nat) : Int) := by rw [wrap_i64 (by omega) (by omega)]; omega
    obtain ⟨j, hz, hij, hjt⟩ := (right_facts hR).1 i hi t[i].kids[k] (by rw [getD_at hi]; exact List.getElem_mem _)
    obtain ⟨g1, g2⟩ := x2.kids.get hkl (k := .i64)
    rw [hz] at g2
    rw [List.drop_eq_getElem_cons hkl, scanL, hz, Int.toNat_natCast] at ho
    rw [Ew_loop] at hr
    simp only [L5_1, B5_1, B5_8, B5_2, sC, reduceIte, Nat.reduceEqDiff, stepOp, opMov, opArith, arith, sO, reduceCtorEq, opIaSl_s, opFieldAddr_s, opLoad_s, h0, h5, h8, x1, x2.f5, x2.l5, hl, hlt, g1, g2] at hr
    rw [← Ew_seq] at hr
    generalize hr6 : Ew TS false (.seq B5_3 B5_6) _ _ = r6 at hr
    obtain ⟨e2, σ2, hf2, rfl, a10, a11, a0, a5, a6, a7, a8⟩ := first_6 ht hwf hR (by omega) hjt hf hr6 (by simp only [V_U, Nat.reduceEqDiff, reduceIte, h0]) (by simp only [V_U, Nat.reduceEqDiff, reduceIte]) (by simp only [V_U, Nat.reduceEqDiff, reduceIte]) (by simp only [V_U, Nat.reduceEqDiff, reduceIte])
    simp only [V_U, Nat.reduceEqDiff, reduceIte, h5, h6, h7, h8] at a5 a6 a7 a8
    cases htd : toldS t j with
    | none =>
      rw [htd] at a11 ho
      simp only [sC, reduceIte, Nat.reduceEqDiff, stepOp, opMov, opArith, arith, sO, B5_9, a11, a8, hw, Option.isSome_none] at hr
      exact first_loop ht hwf hR hi m (k + 1) σ2 _ r (by omega) hf2 ho hr (by simp only [V_U, Nat.reduceEqDiff, reduceIte, a0]) (by simp only [V_U, Nat.reduceEqDiff, reduceIte, a5]) (by simp only [V_U, Nat.reduceEqDiff, reduceIte, a6]) (by simp only [V_U, Nat.reduceEqDiff, reduceIte, a7]) (by simp only [V_U, Nat.reduceEqDiff, reduceIte])
    | some w =>
      rw [htd] at a10 a11 ho
      have ho : o = some w := ho
      rw [ho] at a6 a7
      have hwk := works_ok false σ2
      simp only [sC, reduceIte, Nat.reduceEqDiff, stepOp, opMov, opPick, opArith, arith, sO, B5_7, a10, a11, a6, a7, Option.isSome_some, opCall, argsOf, hwk] at hr
      exact ⟨_, _, .inr ⟨hr.symm, by simp only [V_U, Nat.reduceEqDiff, reduceIte]⟩⟩
end

theorem NWF.alen' {t : List ND} (h : ∀ n ∈ t, NWF n) : ∀ n ∈ t, n.attrs.length < 9223372036854775808 := fun n hn => (h n hn).alen

theorem pick_range {n : Int} {b : Nat} (hb : 0 < b) : ∃ i : Nat, (if (b : Int) ≤ 0 then 0 else (n.tmod (b : Int) + (b : Int)).tmod (b : Int)) = (i : Int) ∧ i < b := by
  rw [if_neg (by omega)]
  have h0 : 0 ≤ n.tmod (b : Int) + (b : Int) := by
    have := Int.lt_tmod_of_pos n (show (0 : Int) < (b : Int) by omega); omega
  have h1 : 0 ≤ (n.tmod (b : Int) + (b : Int)).tmod (b : Int) := Int.tmod_nonneg _ h0
  have h2 : (n.tmod (b : Int) + (b : Int)).tmod (b : Int) < (b : Int) := Int.tmod_lt_of_pos _ (by omega)
  exact ⟨((n.tmod (b : Int) + (b : Int)).tmod (b : Int)).toNat, by omega, by omega⟩

set_option maxHeartbeats 2000000 in
/-- DirsFirst answers true. -/
theorem DirsFirst_true {σ : St} {t : List ND} {tv : AVal} (ht : TreeI σ tv t) (hwf : ∀ n ∈ t, NWF n) (hb : t.length < 9223372036854775808) (n : Int) (hn : -9223372036854775808 ≤ n ∧ n < 9223372036854775808) :
    ∃ σ', Cw TS false 5 [tv, .int .i64 n] σ = some (.bool true, σ') := by
  have hl := ht.len
  rw [Cw_of fn5 false _ σ rfl]
  by_cases c1 : (300 : Int) < (t.length : Int)
  · simp only [c5, B5_10, B5_11, sC, reduceIte, Nat.reduceEqDiff, stepOp, undefA, opMov, opPick, opArith, arith, sO, reduceCtorEq, sF, Nat.reduceAdd, hl, c1, opCall, argsOf, works_ok]
    exact ⟨_, rfl⟩
  · obtain ⟨sz, hsz⟩ := Size_ok ht (NWF.alen' hwf) hb 10000
    by_cases c2 : (10000 : Int) < sz
    · simp only [c5, B5_10, B5_11, sC, reduceIte, Nat.reduceEqDiff, stepOp, undefA, opMov, opPick, opArith, arith, sO, reduceCtorEq, sF, Nat.reduceAdd, hl, c1, opCall, argsOf, hsz, c2, works_ok]
      exact ⟨_, rfl⟩
    · obtain ⟨σ1, hf1, hR⟩ := Right_ok ht hwf
      cases hr : rightS t with
      | false =>
        rw [hr, if_neg (by decide)] at hR
        simp only [c5, B5_10, B5_11, sC, reduceIte, Nat.reduceEqDiff, stepOp, opMov, opPick, opArith, arith, sO, Int.reduceEq, reduceCtorEq, sF, Nat.reduceAdd, hl, c1, opCall, argsOf, hsz, c2, hR, works_ok]
        exact ⟨_, rfl⟩
      | true =>
        rw [hr, if_pos rfl] at hR
        obtain ⟨hk, -, hpos, -⟩ := right_facts hr
        have ht1 := ht.fr hf1
        have hl1 := ht1.len
        have hP := Pick_ok false n (t.length : Int) σ1 hn (by omega)
        obtain ⟨i, hi, hit⟩ := pick_range (n := n) hpos
        rw [hi] at hP
        obtain ⟨av, kv, x1, x2⟩ := ht1.get hit
        have x1 := x1 .i64
        by_cases c3 : (t[i].kind : Int) = 1
        · have c3' := eq_true c3
          have hi0 : i ≠ 0 := by
            intro e
            have := head_kind hr
            rw [getD_at hpos] at this
            subst e; omega
          have he : elemS t (i : Int) = true := by
            unfold elemS
            rw [Int.toNat_natCast, getD_at hit, hr, decide_eq_true (show (0 : Int) < (i : Int) by omega), decide_eq_true (show (i : Int) < (t.length : Int) by omega), decide_eq_true (show t[i].kind = 1 by omega)]
            rfl
          obtain ⟨σ2, hf2, hs⟩ := Scan_ok ht1 hwf (i : Int)
          have hsc : ScanS t (i : Int) = scanS t i := by unfold ScanS; rw [he, if_pos rfl, Int.toNat_natCast]
          rw [hsc] at hs
          simp only [c5, B5_10, B5_11, B5_12, B5_13, B5_14, B5_15, sC, reduceIte, Nat.reduceEqDiff, stepOp, opMov, opPick, opArith, arith, sO, reduceCtorEq, sF, Nat.reduceAdd, opIaSl_s, opFieldAddr_s, opLoad_s, hl, c1, opCall, argsOf, hsz, c2, hR, hP, x1, x2.f0, x2.l0, c3', hs, wayV, opExtract, dropX_zero, dropX_1]
          generalize hrr : Ew TS false (.loop L5_1) _ _ = rr
          obtain ⟨e', σ', ⟨rfl, h7⟩ | ⟨rfl, h4⟩⟩ := first_loop ht hwf hr hit (o := scanS t i) t[i].kids.length 0 σ2 _ rr (by omega) (hf1.trans hf2) (by rw [List.drop_zero]; exact scan_told hr hit) hrr (by simp only [V_U, Nat.reduceEqDiff, reduceIte]) (by simp only [V_U, Nat.reduceEqDiff, reduceIte]) (by simp only [V_U, Nat.reduceEqDiff, reduceIte]) (by simp only [V_U, Nat.reduceEqDiff, reduceIte]) (by simp only [V_U, Nat.reduceEqDiff, reduceIte]; rfl)
          · simp only [sC, reduceIte, Nat.reduceEqDiff, stepOp, opMov, opPick, opNot, sO, sF, B5_16, h7, opCall, argsOf, works_ok]
            exact ⟨_, rfl⟩
          · simp only [sF, h4]
            exact ⟨_, rfl⟩
        · simp only [c5, B5_10, B5_11, B5_12, B5_13, B5_14, sC, reduceIte, Nat.reduceEqDiff, stepOp, opMov, opPick, opArith, arith, sO, reduceCtorEq, sF, Nat.reduceAdd, opIaSl_s, opFieldAddr_s, opLoad_s, hl, c1, opCall, argsOf, hsz, c2, hR, hP, x1, x2.f0, x2.l0, c3, works_ok]
          exact ⟨_, rfl⟩
end Go.Ab.Dirs
end
