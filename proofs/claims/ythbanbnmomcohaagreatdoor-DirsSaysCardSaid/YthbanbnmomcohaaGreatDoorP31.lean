/- DirsSays, walked: whole. -/
import Derived.Test.YthbanbnmomcohaaGreatDoorP30
set_option maxRecDepth 10000
noncomputable section
namespace Go.Ab.Dirs
open Go Go.Ab

section
variable {t : List ND} {tv : AVal}

theorem wK_dir (k : Nat) : wK k = wL ∨ wK k = wR := by unfold wK; split <;> simp
theorem wK_wf (k : Nat) : SWF (wK k) := by
  rcases wK_dir k with h | h <;> rw [h]
  · exact ⟨fun c hc => by simp [wL] at hc; omega, by decide⟩
  · exact ⟨fun c hc => by simp [wR] at hc; omega, by decide⟩

theorem eqB (a b : Bool) : eqV .bool (.bool a) (.bool b) = some (a == b) := by simp only [eqV]

/-- What the loop over the two words gives. -/
def SaysP (t : List ND) (tv : AVal) (i bs m : Nat) : Prop := ∀ (k : Nat) (σ : St) (e : Env) (r : Option (Out × Env × St)), k + m = 2 → TreeI σ tv t → OwnW σ bs → Ew TS false (.loop L4_2) e σ = r →
    V e 0 = tv → V e 5 = .int .i64 (i : Int) → V e 39 = .slice bs 0 2 1 → V e 40 = .int .i64 2 → V e 41 = .int .i64 (k : Int) →
    ∃ e' σ', r = some (.exit 0, e', σ')
theorem says_zero (i bs : Nat) : SaysP t tv i bs 0 := by
  intro k σ e r hk ht hW hr h0 h5 h39 h40 h41
  have hlt : ¬ ((k : Int) < 2) := by omega
  rw [Ew_loop] at hr
  simp only [L4_2, sC, reduceIte, stepOp, opArith, arith, sO, h40, h41, hlt] at hr
  exact ⟨_, _, hr.symm⟩
set_option maxHeartbeats 8000000 in
theorem says_step (hwf : ∀ n ∈ t, NWF n) (hR : rightS t = true) {i : Nat} (hi : i < t.length) (hkd : t[i].kind = 1) (hb : t.length ≤ 300) (bs m : Nat) (ih : SaysP t tv i bs m) : SaysP t tv i bs (m + 1) := by
  intro k σ e r hk ht hW hr h0 h5 h39 h40 h41
  have hlt : ((k : Int) < 2) := by omega
  have hw : wrapI .i64 ((k : Int) + 1) = ((k + 1 : Nat) : Int) := by rw [wrap_i64 (by omega) (by omega)]; omega
  have hpos : 0 < t.length := by omega
  have hi0 : 0 < i := by
    have := head_kind hR
    rw [getD_at hpos] at this
    rcases Nat.eq_zero_or_pos i with h | h
    · subst h; omega
    · exact h
  obtain ⟨s1, s2⟩ := hW.get (k := k) (by omega) (q := .i64)
  obtain ⟨cs, hsl, hnc⟩ := id ht
  have hcs := hsl.cs_len
  have hap := ap_tree hsl hnc hpos (by omega)
  have hga : (σ.new (.cells false 36 cs)).get σ.next = some (.cells false 36 cs) := St.get_new_same _ _
  have hfa : Fr σ (σ.new (.cells false 36 cs)) := Fr.new _ _
  have hna : (σ.new (.cells false 36 cs)).next = σ.next + 1 := rfl
  generalize σ.new (.cells false 36 cs) = σa at hap hga hfa hna
  obtain ⟨av, kv, ds, hd1, hd2, -⟩ := hnc.drop hi
  have hi6 : i * 6 + 6 ≤ cs.length := by omega
  have hd3 : cs.drop (i * 6) = [.int .u8 (t[i].kind : Int), .str t[i].name, av, .str t[i].data, .int .i64 t[i].up, kv] ++ ds := by rw [hd2, hd1.1]
  have hdx : dropX (i * 6) cs = some (.int .u8 (t[i].kind : Int) :: .str t[i].name :: av :: .str t[i].data :: .int .i64 t[i].up :: kv :: ds) := by
    rw [dropX_eq.2 ⟨by omega, rfl⟩, hd3]; rfl
  have hix : ixS 6 (.slice σ.next 0 t.length 6) (.int .i64 (i : Int)) = some (.ptr σ.next (i * 6)) := by
    simp only [ixS, Int.toNat_natCast, Nat.zero_add]
    rw [if_pos ⟨trivial, by omega, by omega⟩]
  have o1 := hd1.2.1.one
  have o2 := hd1.2.2.one
  have hfb : Fr σa ((σa.new (.cells true 36 [.int .u8 0, .str [], .nils, .str [], .int .i64 0, .nils])).put σa.next (.cells true 36 [.int .u8 (t[i].kind : Int), .str t[i].name, av, .str t[i].data, .int .i64 t[i].up, kv])) := (Fr.new _ _).put (Nat.le_refl _) _
  have hgb : ((σa.new (.cells true 36 [.int .u8 0, .str [], .nils, .str [], .int .i64 0, .nils])).put σa.next (.cells true 36 [.int .u8 (t[i].kind : Int), .str t[i].name, av, .str t[i].data, .int .i64 t[i].up, kv])).get σa.next = some (.cells true 36 [.int .u8 (t[i].kind : Int), .str t[i].name, av, .str t[i].data, .int .i64 t[i].up, kv]) := St.get_put_same _ _ _
  have hnb : ((σa.new (.cells true 36 [.int .u8 0, .str [], .nils, .str [], .int .i64 0, .nils])).put σa.next (.cells true 36 [.int .u8 (t[i].kind : Int), .str t[i].name, av, .str t[i].data, .int .i64 t[i].up, kv])).next = σa.next + 1 := rfl
  generalize eb : (σa.new (.cells true 36 [.int .u8 0, .str [], .nils, .str [], .int .i64 0, .nils])).put σa.next (.cells true 36 [.int .u8 (t[i].kind : Int), .str t[i].name, av, .str t[i].data, .int .i64 t[i].up, kv]) = σb at hfb hgb hnb
  have hgb9 : ∀ o, (σb.new o).get σa.next = some (.cells true 36 [.int .u8 (t[i].kind : Int), .str t[i].name, av, .str t[i].data, .int .i64 t[i].up, kv]) := fun o => by rw [St.get_new_other _ _ (by omega)]; exact hgb
  have hgbu : ∀ o o', ((σb.new o).put σa.next o').get σ.next = some (.cells false 36 cs) := fun o o' => by rw [St.get_put_other _ _ (by omega), St.get_new_other _ _ (by omega), hfb.get _ (by omega)]; exact hga
  have hput := putX_some (i * 6) cs [.int .u8 (t[i].kind : Int), .str t[i].name, .slice σb.next 0 1 2, .str t[i].data, .int .i64 t[i].up, kv] (by simpa using hi6)
  simp only [List.length_cons, List.length_nil, Nat.zero_add, Nat.reduceAdd] at hput
  have hfe : ∀ o1 o2 o3, Fr σ (((σb.new o1).put σa.next o2).put σ.next o3) := fun _ _ _ => (((hfa.trans hfb).trans (Fr.new _ _)).put (by omega) _).put (Nat.le_refl _) _
  have hF := hfe (.cells true 39 [.str [100, 105, 114], .str (wK k)]) (.cells true 36 [.int .u8 (t[i].kind : Int), .str t[i].name, .slice σb.next 0 1 2, .str t[i].data, .int .i64 t[i].up, kv]) (.cells false 36 (cs.take (i * 6) ++ ([.int .u8 (t[i].kind : Int), .str t[i].name, .slice σb.next 0 1 2, .str t[i].data, .int .i64 t[i].up, kv] ++ cs.drop (i * 6 + 6))))
  have hgE : ((((σb.new (.cells true 39 [.str [100, 105, 114], .str (wK k)])).put σa.next (.cells true 36 [.int .u8 (t[i].kind : Int), .str t[i].name, .slice σb.next 0 1 2, .str t[i].data, .int .i64 t[i].up, kv])).put σ.next (.cells false 36 (cs.take (i * 6) ++ ([.int .u8 (t[i].kind : Int), .str t[i].name, .slice σb.next 0 1 2, .str t[i].data, .int .i64 t[i].up, kv] ++ cs.drop (i * 6 + 6))))).get σb.next) = some (.cells true 39 [.str [100, 105, 114], .str (wK k)]) := by
    rw [St.get_put_other _ _ (by omega), St.get_put_other _ _ (by omega), St.get_new_same]
  have hnE : (((σb.new (.cells true 39 [.str [100, 105, 114], .str (wK k)])).put σa.next (.cells true 36 [.int .u8 (t[i].kind : Int), .str t[i].name, .slice σb.next 0 1 2, .str t[i].data, .int .i64 t[i].up, kv])).put σ.next (.cells false 36 (cs.take (i * 6) ++ ([.int .u8 (t[i].kind : Int), .str t[i].name, .slice σb.next 0 1 2, .str t[i].data, .int .i64 t[i].up, kv] ++ cs.drop (i * 6 + 6))))).next = σb.next + 1 := rfl
  have hgU : (((σb.new (.cells true 39 [.str [100, 105, 114], .str (wK k)])).put σa.next (.cells true 36 [.int .u8 (t[i].kind : Int), .str t[i].name, .slice σb.next 0 1 2, .str t[i].data, .int .i64 t[i].up, kv])).put σ.next (.cells false 36 (cs.take (i * 6) ++ ([.int .u8 (t[i].kind : Int), .str t[i].name, .slice σb.next 0 1 2, .str t[i].data, .int .i64 t[i].up, kv] ++ cs.drop (i * 6 + 6))))).get σ.next = some (.cells false 36 (cs.take (i * 6) ++ ([.int .u8 (t[i].kind : Int), .str t[i].name, .slice σb.next 0 1 2, .str t[i].data, .int .i64 t[i].up, kv] ++ cs.drop (i * 6 + 6)))) := St.get_put_same _ _ _
  generalize eE : ((σb.new (.cells true 39 [.str [100, 105, 114], .str (wK k)])).put σa.next (.cells true 36 [.int .u8 (t[i].kind : Int), .str t[i].name, .slice σb.next 0 1 2, .str t[i].data, .int .i64 t[i].up, kv])).put σ.next (.cells false 36 (cs.take (i * 6) ++ ([.int .u8 (t[i].kind : Int), .str t[i].name, .slice σb.next 0 1 2, .str t[i].data, .int .i64 t[i].up, kv] ++ cs.drop (i * 6 + 6)))) = σE at hF hgE hnE hgU
  have hT := says_tree (w := wK k) hi (hnc.fr hF) hcs (hd1.fr hF) (by omega) hgE (by omega) hgU
  have hwf' := withA_wf (w := wK k) hwf hi (wK_wf k)
  have hR' := withA_right hi (attrs_dir _ (wK_dir k)) (by rw [getD_at hi]; exact hkd) hR
  have hlen := withA_len t i (wK k)
  obtain ⟨σF, hfF, ⟨hf, -⟩ | ⟨-, bl, hbl, hB, hBl, hA⟩⟩ := All_ok hT hwf'
  · rw [hR'] at hf; simp at hf
  have hib : i < (allS (withA t i (wK k))).length := by omega
  have hway := allS_at hR' (j := i) hi0 (by omega)
  have hAi : (withA t i (wK k)).getD i dN = { t.getD i dN with attrs := [([100, 105, 114], wK k)] } := withA_at hi _
  have hsd : sheetD (withA t i (wK k)) i = some (if k = 0 then 0 else 1) := by
    unfold sheetD
    rw [hAi]
    show (if stateS [(dirN, wK k)] = 2 then some 1 else if stateS [(dirN, wK k)] = 1 then some 0 else _) = _
    unfold wK
    by_cases hk0 : k = 0
    · rw [if_pos hk0, state_L, if_neg (by decide), if_pos rfl, if_pos hk0]
    · rw [if_neg hk0, state_R, if_pos rfl, if_neg hk0]
  have hkd' : ((withA t i (wK k)).getD i dN).kind = 1 := by rw [hAi, getD_at hi]; exact hkd
  rw [if_pos hkd', hsd, getD_at hib] at hway
  simp only at hway
  obtain ⟨u1, u2⟩ := hB.get hib (k := .i64)
  rw [hway, hBl, hlen] at u2
  rw [hBl, hlen] at u1
  rw [hlen] at hA
  have hfin : ∀ eX rl, Ew TS false (.loop L4_1) eX σF = rl → V eX 0 = tv → V eX 5 = .int .i64 (i : Int) → V eX 8 = .slice σ.next 0 t.length 6 → V eX 10 = .slice bl 0 t.length 1 → V eX 12 = .int .i64 0 → V eX 39 = .slice bs 0 2 1 → V eX 40 = .int .i64 2 → V eX 41 = .int .i64 (k : Int) →
      ∃ eY σY, Fr σ σY ∧ rl = some (.exit 2, eY, σY) ∧ V eY 0 = tv ∧ V eY 5 = .int .i64 (i : Int) ∧ V eY 39 = .slice bs 0 2 1 ∧ V eY 40 = .int .i64 2 ∧ V eY 41 = .int .i64 (k : Int) := by
    intro eX rl hX x0 x5 x8 x10 x12 x39 x40 x41
    obtain ⟨eY, σY, g1, g2, g3, g4, g5, g6, g7⟩ := says_in hwf' hR' hi0 (by omega) bl _ 0 σF eX _ (Nat.zero_add _) (hT.fr hfF) hB hBl hX x5 x8 (by rw [hlen]; exact x10) x12
    exact ⟨eY, σY, (hF.trans hfF).trans g1, g2, by rw [g3, x0], by rw [g4, x5], by rw [g5, x39], by rw [g6, x40], by rw [g7, x41]⟩
  rw [Ew_loop] at hr
  have hkc : k = 0 ∨ k = 1 := by omega
  rcases hkc with rfl | rfl
  · have hwl : wK 0 = [108, 116, 114] := rfl
    simp only [hwl] at eE s2
    have cK : strop .eql (.str [108, 116, 114]) (.str [82, 84, 76]) = some (.bool false) := by kernel_rfl
    have u2 : ldA σF none (ixp 1 (.slice bl 0 t.length 1) i) = some (.int .u8 0) := by simpa using u2
    simp only [L4_2, B4_14, B4_7, B4_8, sC, reduceIte, Nat.reduceEqDiff, stepOp, opMov, opArith, arith, sO, reduceCtorEq, h0, h39, h40, h41, hlt, s1, s2, opIaSl_s, opLoad_s, Bool.false_eq_true, opAppend_s, hap] at hr
    simp only [B4_9, sC, reduceIte, Nat.reduceEqDiff, stepOp, undefA, opMov, sO, Nat.reduceAdd, opAlloc, allOne, sM, h5, hix, hga, hdx, o1, o2, eb] at hr
    simp only [B4_10, sC, reduceIte, Nat.reduceEqDiff, stepOp, undefA, opMov, sO, allOne, sM, opBuild, List.map_cons, List.map_nil, fill_at, opBuildSlice_s, bsS, fill_at2, hgb9, putX_2of6] at hr
    simp only [B4_11, sC, reduceIte, Nat.reduceEqDiff, stepOp, undefA, opMov, sO, Nat.reduceAdd, allOne, sM, h5, hix, hgbu, hput, o2, eE] at hr
    simp only [B4_12, sC, reduceIte, Nat.reduceEqDiff, stepOp, opMov, opCall, argsOf, hA, opExtract, dropX_zero, dropX_1] at hr
    simp only [B4_13, sC, reduceIte, Nat.reduceEqDiff, stepOp, opMov, opPick, opArith, arith, opStrop, cK, opEq, eqB, sO, Int.reduceEq, opIaSl_s, opLoad_s, h5, lenS_slice, u1, u2] at hr
    generalize hrl : Ew TS false (.loop L4_1) _ _ = rl at hr
    obtain ⟨eY, σY, g1, g2, g3, g4, g5, g6, g7⟩ := hfin _ _ hrl (by simp only [V_U, Nat.reduceEqDiff, reduceIte, h0]) (by simp only [V_U, Nat.reduceEqDiff, reduceIte, h5]) (by simp only [V_U, Nat.reduceEqDiff, reduceIte]) (by simp only [V_U, Nat.reduceEqDiff, reduceIte]) (by simp only [V_U, Nat.reduceEqDiff, reduceIte]) (by simp only [V_U, Nat.reduceEqDiff, reduceIte, h39]) (by simp only [V_U, Nat.reduceEqDiff, reduceIte, h40]) (by simp only [V_U, Nat.reduceEqDiff, reduceIte, h41])
    subst g2
    simp only [reduceIte, Nat.reduceAdd, g7, hw] at hr
    exact ih (0 + 1) σY _ r (by omega) (ht.fr g1) (hW.fr g1) hr (by simp only [V_U, Nat.reduceEqDiff, reduceIte, g3]) (by simp only [V_U, Nat.reduceEqDiff, reduceIte, g4]) (by simp only [V_U, Nat.reduceEqDiff, reduceIte, g5]) (by simp only [V_U, Nat.reduceEqDiff, reduceIte, g6]) (by simp only [V_U, Nat.reduceEqDiff, reduceIte, Nat.reduceAdd])
  · have hwl : wK 1 = [82, 84, 76] := rfl
    simp only [hwl] at eE s2
    have cK : strop .eql (.str [82, 84, 76]) (.str [82, 84, 76]) = some (.bool true) := by kernel_rfl
    have u2 : ldA σF none (ixp 1 (.slice bl 0 t.length 1) i) = some (.int .u8 1) := by simpa using u2
    simp only [L4_2, B4_14, B4_7, B4_8, sC, reduceIte, Nat.reduceEqDiff, stepOp, opMov, opArith, arith, sO, reduceCtorEq, h0, h39, h40, h41, hlt, s1, s2, opIaSl_s, opLoad_s, Bool.false_eq_true, opAppend_s, hap] at hr
    simp only [B4_9, sC, reduceIte, Nat.reduceEqDiff, stepOp, undefA, opMov, sO, Nat.reduceAdd, opAlloc, allOne, sM, h5, hix, hga, hdx, o1, o2, eb] at hr
    simp only [B4_10, sC, reduceIte, Nat.reduceEqDiff, stepOp, undefA, opMov, sO, allOne, sM, opBuild, List.map_cons, List.map_nil, fill_at, opBuildSlice_s, bsS, fill_at2, hgb9, putX_2of6] at hr
    simp only [B4_11, sC, reduceIte, Nat.reduceEqDiff, stepOp, undefA, opMov, sO, Nat.reduceAdd, allOne, sM, h5, hix, hgbu, hput, o2, eE] at hr
    simp only [B4_12, sC, reduceIte, Nat.reduceEqDiff, stepOp, opMov, opCall, argsOf, hA, opExtract, dropX_zero, dropX_1] at hr
    simp only [B4_13, sC, reduceIte, Nat.reduceEqDiff, stepOp, opMov, opPick, opArith, arith, opStrop, cK, opEq, eqB, sO, opIaSl_s, opLoad_s, h5, lenS_slice, u1, u2] at hr
    generalize hrl : Ew TS false (.loop L4_1) _ _ = rl at hr
    obtain ⟨eY, σY, g1, g2, g3, g4, g5, g6, g7⟩ := hfin _ _ hrl (by simp only [V_U, Nat.reduceEqDiff, reduceIte, h0]) (by simp only [V_U, Nat.reduceEqDiff, reduceIte, h5]) (by simp only [V_U, Nat.reduceEqDiff, reduceIte]) (by simp only [V_U, Nat.reduceEqDiff, reduceIte]) (by simp only [V_U, Nat.reduceEqDiff, reduceIte]) (by simp only [V_U, Nat.reduceEqDiff, reduceIte, h39]) (by simp only [V_U, Nat.reduceEqDiff, reduceIte, h40]) (by simp only [V_U, Nat.reduceEqDiff, reduceIte, h41])
    subst g2
    simp only [reduceIte, Nat.reduceAdd, g7, hw] at hr
    exact ih (1 + 1) σY _ r (by omega) (ht.fr g1) (hW.fr g1) hr (by simp only [V_U, Nat.reduceEqDiff, reduceIte, g3]) (by simp only [V_U, Nat.reduceEqDiff, reduceIte, g4]) (by simp only [V_U, Nat.reduceEqDiff, reduceIte, g5]) (by simp only [V_U, Nat.reduceEqDiff, reduceIte, g6]) (by simp only [V_U, Nat.reduceEqDiff, reduceIte, Nat.reduceAdd])

theorem says_loop (hwf : ∀ n ∈ t, NWF n) (hR : rightS t = true) {i : Nat} (hi : i < t.length) (hkd : t[i].kind = 1) (hb : t.length ≤ 300) (bs : Nat) : ∀ m, SaysP t tv i bs m
  | 0 => says_zero i bs
  | m + 1 => says_step hwf hR hi hkd hb bs m (says_loop hwf hR hi hkd hb bs m)

set_option maxHeartbeats 2000000 in
/-- DirsSays answers true. -/
theorem DirsSays_true {σ : St} (ht : TreeI σ tv t) (hwf : ∀ n ∈ t, NWF n) (hb : t.length < 9223372036854775808) (n : Int) (hn : -9223372036854775808 ≤ n ∧ n < 9223372036854775808) :
    ∃ σ', Cw TS false 4 [tv, .int .i64 n] σ = some (.bool true, σ') := by
  have hl := ht.len
  rw [Cw_of fn4 false _ σ rfl]
  by_cases c1 : (300 : Int) < (t.length : Int)
  · simp only [c4, B4_15, B4_16, sC, reduceIte, Nat.reduceEqDiff, stepOp, undefA, opMov, opPick, opArith, arith, sO, reduceCtorEq, sF, Nat.reduceAdd, hl, c1, opCall, argsOf, works_ok]
    exact ⟨_, rfl⟩
  · obtain ⟨sz, hsz⟩ := Size_ok ht (NWF.alen' hwf) hb 10000
    by_cases c2 : (10000 : Int) < sz
    · simp only [c4, B4_15, B4_16, sC, reduceIte, Nat.reduceEqDiff, stepOp, undefA, opMov, opPick, opArith, arith, sO, reduceCtorEq, sF, Nat.reduceAdd, hl, c1, opCall, argsOf, hsz, c2, works_ok]
      exact ⟨_, rfl⟩
    · obtain ⟨σ1, hf1, hR⟩ := Right_ok ht hwf
      cases hr : rightS t with
      | false =>
        rw [hr, if_neg (by decide)] at hR
        simp only [c4, B4_15, B4_16, sC, reduceIte, Nat.reduceEqDiff, stepOp, opMov, opPick, opArith, arith, sO, Int.reduceEq, reduceCtorEq, sF, Nat.reduceAdd, hl, c1, opCall, argsOf, hsz, c2, hR, works_ok]
        exact ⟨_, rfl⟩
      | true =>
        rw [hr, if_pos rfl] at hR
        obtain ⟨hk, -, hpos, -⟩ := right_facts hr
        have ht1 := ht.fr hf1
        have hl1 := ht1.len
        have hP := Pick_ok false n (t.length : Int) σ1 hn (by omega)
        obtain ⟨i, hi, hit⟩ := pick_range (n := n) hpos
        rw [hi] at hP
        obtain ⟨av, kv, x1, x2⟩ := ht1.get hit
        have x1 := x1 .i64
        by_cases c3 : (t[i].kind : Int) = 1
        · have c3' := eq_true c3
          have hW : OwnW (σ1.new (.cells true 9 [.str [108, 116, 114], .str [82, 84, 76]])) σ1.next := ⟨Nat.lt_succ_self _, true, 9, St.get_new_same _ _⟩
          simp only [c4, B4_15, B4_16, B4_17, B4_18, B4_19, B4_20, sC, reduceIte, Nat.reduceEqDiff, stepOp, opMov, opPick, opArith, arith, sO, reduceCtorEq, sF, Nat.reduceAdd, opIaSl_s, opFieldAddr_s, opLoad_s, hl, c1, opCall, argsOf, hsz, c2, hR, hP, x1, x2.f0, x2.l0, c3', opBuildSlice_s, bsS, List.map_cons, List.map_nil, fill_s2, Bool.false_eq_true, lenS_slice]
          generalize hrr : Ew TS false (.loop L4_2) _ _ = rr
          obtain ⟨e', σ', rfl⟩ := says_loop hwf hr hit (by omega) (by omega) σ1.next 2 0 _ _ rr (by omega) (ht1.fr (Fr.new _ _)) hW hrr (by simp only [V_U, Nat.reduceEqDiff, reduceIte]) (by simp only [V_U, Nat.reduceEqDiff, reduceIte]) (by simp only [V_U, Nat.reduceEqDiff, reduceIte]) (by simp only [V_U, Nat.reduceEqDiff, reduceIte]; rfl) (by simp only [V_U, Nat.reduceEqDiff, reduceIte]; rfl)
          simp only [sC, reduceIte, Nat.reduceEqDiff, sF, works_ok]
          exact ⟨_, rfl⟩
        · simp only [c4, B4_15, B4_16, B4_17, B4_18, B4_19, sC, reduceIte, Nat.reduceEqDiff, stepOp, opMov, opPick, opArith, arith, sO, reduceCtorEq, sF, Nat.reduceAdd, opIaSl_s, opFieldAddr_s, opLoad_s, hl, c1, opCall, argsOf, hsz, c2, hR, hP, x1, x2.f0, x2.l0, c3, works_ok]
          exact ⟨_, rfl⟩
end
end Go.Ab.Dirs
end
