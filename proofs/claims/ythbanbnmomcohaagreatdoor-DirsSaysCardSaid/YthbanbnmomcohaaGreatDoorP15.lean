/- tree.Right: its main loop, walked. -/
import Derived.Test.YthbanbnmomcohaaGreatDoorP14
set_option maxRecDepth 10000
noncomputable section
namespace Go.Ab.Dirs
open Go Go.Ab

theorem OwnI.same {σ σ' : St} {b : Nat} {l : List Nat} (h : OwnI σ b l) (hn : σ.next ≤ σ'.next) (hg : σ'.get b = σ.get b) : OwnI σ' b l := by
  obtain ⟨h1, f, cs, h2, h3⟩ := h
  exact ⟨Nat.lt_of_lt_of_le h1 hn, f, cs, by rw [hg]; exact h2, h3⟩

set_option maxHeartbeats 8000000 in
theorem right_loop {σ0 : St} {t : List ND} {tv : AVal} (ht : TreeI σ0 tv t) (hwf : ∀ n ∈ t, NWF n) (hN : t.length ≤ 16384) (bk : Nat) (hbk : σ0.next ≤ bk) : ∀ (m i : Nat) (path cnt : List Nat) (bp : Nat) (e : Env) (σ : St) (r : Option (Out × Env × St)), i + m = t.length → InvR t i path cnt →
    Fr σ0 σ → σ0.next ≤ bp → bp ≠ bk → OwnI σ bp path → OwnI σ bk cnt → Ew TS false (.loop L13_3) e σ = r →
    V e 0 = tv → V e 3 = .slice bp 0 path.length 1 → V e 4 = .slice bk 0 t.length 1 → V e 35 = tv → V e 36 = .int .i64 (t.length : Int) → V e 37 = .int .i64 (i : Int) →
    ∃ e' σ', Fr σ0 σ' ∧ ((rightG t m i path cnt = none ∧ r = some (.ret, e', σ') ∧ V e' 2 = .int .i64 53) ∨
      (∃ cnt', rightG t m i path cnt = some cnt' ∧ r = some (.exit 0, e', σ') ∧ V e' 0 = tv ∧ V e' 4 = .slice bk 0 t.length 1 ∧ OwnI σ' bk cnt' ∧ cnt'.length = t.length))
  | 0, i, path, cnt, bp, e, σ, r, hi, hv, hf, hbp, hbb, hp, hc, hr, h0, h3, h4, h35, h36, h37 => by
    have hlt : ¬ ((i : Int) < (t.length : Int)) := by omega
    rw [Ew_loop] at hr
    simp only [L13_3, sC, reduceIte, stepOp, opArith, arith, sO, h36, h37, hlt] at hr
    exact ⟨_, _, hf, .inr ⟨cnt, rfl, hr.symm, by simp only [V_U, Nat.reduceEqDiff, reduceIte, h0], by simp only [V_U, Nat.reduceEqDiff, reduceIte, h4], hc, hv.clen⟩⟩
  | m + 1, i, path, cnt, bp, e, σ, r, hi, hv, hf, hbp, hbb, hp, hc, hr, h0, h3, h4, h35, h36, h37 => by
    have hlt : ((i : Int) < (t.length : Int)) := by omega
    have hit : i < t.length := by omega
    have hw : wrapI .i64 ((i : Int) + 1) = ((i + 1 : Nat) : Int) := by rw [wrap_i64 (by omega) (by omega)]; omega
    obtain ⟨av, kv, x1, x2⟩ := (ht.fr hf).get hit
    have x1 := x1 .i64
    have o1 := x2.attrs.one
    have o2 := x2.kids.one
    have hcp := Copy.of (f := true) (t := 36) (zs := [.int .u8 0, .str [], .nils, .str [], .int .i64 0, .nils]) x2
    have hf2 : Fr σ ((σ.new (.cells true 36 [.int .u8 0, .str [], .nils, .str [], .int .i64 0, .nils])).put σ.next (.cells true 36 [.int .u8 (t[i].kind : Int), .str t[i].name, av, .str t[i].data, .int .i64 t[i].up, kv])) := (Fr.new _ _).put (Nat.le_refl _) _
    have x2l := x2.ld
    generalize e2 : (σ.new (.cells true 36 [.int .u8 0, .str [], .nils, .str [], .int .i64 0, .nils])).put σ.next (.cells true 36 [.int .u8 (t[i].kind : Int), .str t[i].name, av, .str t[i].data, .int .i64 t[i].up, kv]) = σ2 at hcp hf2
    have hgi : t.getD i dN = t[i] := getD_at hit dN
    have htI : Fr σ0 σ2 := hf.trans hf2
    rw [rightG, stepR, hgi]
    rw [Ew_loop] at hr
    by_cases hi0 : i = 0
    · have hi0' : ¬ (0 : Int) < (i : Int) := by omega
      rw [if_pos hi0]
      obtain ⟨σ3, hf3, hF⟩ := fits_ok (ht.fr htI) ((hp.fr hf2).ints) hit hwf (by have := hv.len; omega) hv.pos hv.mem (fun h => absurd hi0 h)
      cases hfs : fitsS t path i t[i] with
      | false =>
        rw [hfs] at hF
        simp only [L13_3, B13_14, B13_7, B13_11, B13_10, B13_12, sC, reduceIte, Nat.reduceEqDiff, stepOp, undefA, opMov, opArith, arith, opNot, sO, reduceCtorEq, Nat.reduceAdd, opAlloc, allOne, sM, h0, h3, h35, h36, h37, hlt, x1, x2l, o1, o2, e2, hi0', opCall, argsOf, hF] at hr
        exact ⟨_, _, htI.trans hf3, .inl ⟨by simp, hr.symm, by simp only [V_U, Nat.reduceEqDiff, reduceIte]⟩⟩
      | true =>
        rw [hfs] at hF
        simp only [L13_3, B13_14, B13_7, B13_11, B13_10, B13_12, B13_13, sC, reduceIte, Nat.reduceEqDiff, stepOp, undefA, opMov, opArith, arith, opNot, sO, reduceCtorEq, Nat.reduceAdd, opAlloc, allOne, sM, h0, h3, h35, h36, h37, hlt, x1, x2l, o1, o2, e2, hi0', opCall, argsOf, hF, hw] at hr
        have hstep : stepR t i path cnt = some (path, cnt) := by unfold stepR; rw [if_pos hi0, hgi, hfs]; rfl
        have hall := hf2.trans hf3
        obtain ⟨e', σ', hf', hh⟩ := right_loop ht hwf hN bk hbk m (i + 1) path cnt bp _ σ3 r (by omega) (hv.step hit hstep) (hf.trans hall) hbp hbb (hp.fr hall) (hc.fr hall) hr (by simp only [V_U, Nat.reduceEqDiff, reduceIte, h0]) (by simp only [V_U, Nat.reduceEqDiff, reduceIte, h3]) (by simp only [V_U, Nat.reduceEqDiff, reduceIte, h4]) (by simp only [V_U, Nat.reduceEqDiff, reduceIte, h35]) (by simp only [V_U, Nat.reduceEqDiff, reduceIte, h36]) (by simp only [V_U, Nat.reduceEqDiff, reduceIte])
        exact ⟨e', σ', hf', by simpa using hh⟩
    · have hi0' : (0 : Int) < (i : Int) := by omega
      rw [if_neg hi0]
      simp only [L13_3, B13_14, B13_7, B13_11, B13_10, sC, reduceIte, Nat.reduceEqDiff, stepOp, undefA, opMov, opArith, arith, sO, Nat.reduceAdd, opAlloc, allOne, sM, h35, h36, h37, hlt, x1, x2l, o1, o2, e2, hi0'] at hr
      generalize hr2 : Ew TS false (.loop L13_2) _ _ = r2 at hr
      obtain ⟨ea, rfl, a3, ⟨k, hk⟩, a0, a4, a5, a6, a35, a36, a37⟩ := pop_loop hcp path.length path _ r2 rfl (by have := hv.len; omega) (hp.fr hf2) hr2 (by simp only [V_U, Nat.reduceEqDiff, reduceIte, h3]) (by simp only [V_U, Nat.reduceEqDiff, reduceIte])
      simp only [V_U, Nat.reduceEqDiff, reduceIte, h0, h4, h35, h36, h37] at a0 a4 a5 a6 a35 a36 a37
      simp only [reduceIte] at hr
      generalize hr8 : Ew TS false B13_8 _ _ = r8 at hr
      have hu : popS t[i].up path ≠ [] → ∃ u : Nat, t[i].up = (u : Int) ∧ u < t.length := by
        intro hne
        obtain ⟨l, q, w1, w2⟩ := popS_last _ _ hne
        refine ⟨q, w2.symm, hv.mem q ?_⟩
        have : q ∈ popS t[i].up path := by rw [w1]; simp
        rw [hk] at this; exact List.mem_of_mem_take this
      have hp1 : OwnI σ2 bp (popS t[i].up path) := by rw [hk]; exact (hp.fr hf2).take k
      obtain ⟨eb, rfl, h97, b0, b3, b4, b5, b6, b35, b36, b37⟩ := right_8 (p1 := popS t[i].up path) hr8 hcp (ht.fr htI) (hc.fr hf2) hv.clen hu a0 a3 a4 a5 a6
      rw [a0] at b0; rw [a3] at b3; rw [a4] at b4; rw [a5] at b5; rw [a6] at b6; rw [a35] at b35; rw [a36] at b36; rw [a37] at b37
      rcases h97 with ⟨h97, hno⟩ | ⟨h97, hyes⟩
      · rw [if_neg hno]
        simp only [h97] at hr
        exact ⟨_, _, htI, .inl ⟨rfl, hr.symm, by simp only [V_U, reduceIte]⟩⟩
      · rw [if_pos hyes]
        obtain ⟨u, hu1, hu2⟩ := hu hyes.1
        have htn : t[i].up.toNat = u := by rw [hu1]; simp
        rw [htn] at hyes ⊢
        have huc : u < cnt.length := by rw [hv.clen]; exact hu2
        have hcu : cnt.getD u 0 = cnt[u] := getD_at huc 0
        have htu : t.getD u dN = t[u] := getD_at hu2 dN
        simp only [h97] at hr
        generalize hr9 : Ew TS false B13_9 _ _ = r9 at hr
        have hcb : cnt[u] + 1 < 9223372036854775808 := by
          have h1 := hyes.2.1
          have h2 := (hwf t[u] (List.getElem_mem _)).klen
          rw [hcu] at h1
          have h3 : (t.getD u ⟨0, [], [], [], 0, []⟩).kids.length = t[u].kids.length := by rw [← htu]
          omega
        obtain ⟨ec, σ3, rfl, hf3, hn3, hg3, hk3, c0, c3, c4, c5, c6, c35, c36, c37⟩ := right_9 hr9 hcp (hc.fr hf2) hu1 huc hcb htI hbk (by rw [b4, hv.clen]) b6
        rw [b0] at c0; rw [b3] at c3; rw [b4] at c4; rw [b5] at c5; rw [b35] at c35; rw [b36] at c36; rw [b37] at c37
        have hp3 : OwnI σ3 bp (popS t[i].up path) := hp1.same (Nat.le_of_eq hn3.symm) (hg3 bp hbb)
        have hpos1 : 0 < (popS t[i].up path).length := List.length_pos_iff.2 hyes.1
        have hmem1 : ∀ p ∈ popS t[i].up path, p < t.length := by
          intro p hpp; rw [hk] at hpp; exact hv.mem p (List.mem_of_mem_take hpp)
        have hlen1 : (popS t[i].up path).length ≤ i + 1 := by rw [hk, List.length_take]; have := hv.len; omega
        obtain ⟨l, q, w1, w2⟩ := popS_last _ _ hyes.1
        have hqu : q = u := by omega
        have hup : upOf t (popS t[i].up path) = t[u] := by
          unfold upOf
          have : (popS t[i].up path).getD ((popS t[i].up path).length - 1) 0 = u := by
            rw [w1, ← hqu]; simp
          rw [this]; exact getD_at hu2 _
        have hkid : t[u].kids[cnt[u]]? = some (i : Int) := by
          have h1 := hyes.2.1
          have h2 := hyes.2.2
          have h3 : t.getD u ⟨0, [], [], [], 0, []⟩ = t[u] := htu
          rw [h3, hcu] at h1 h2
          rw [List.getElem?_eq_getElem h1]
          rw [getD_at h1] at h2
          rw [h2]
        have hvk : i ≠ 0 → ∀ j : Nat, idxS (i : Int) (upOf t (popS t[i].up path)).kids 0 = ((j + 1 : Nat) : Int) → ∃ z : Nat, ∃ (h : j < (upOf t (popS t[i].up path)).kids.length), (upOf t (popS t[i].up path)).kids[j] = (z : Int) ∧ z < t.length := by
          intro _ j hj
          rw [hup] at hj
          obtain ⟨j2, _, hj2, hj3⟩ := idxS_le (i : Int) t[u].kids cnt[u] 0 hkid
          have hjc : j < cnt[u] := by
            rw [hj3] at hj; omega
          have hb1 := (hv.cnt u hu2).1
          obtain ⟨z, hz1, hz2⟩ := (hv.cnt u hu2).2 j (by rw [hcu]; exact hjc)
          rw [htu] at hz1 hb1
          have hjl : j < t[u].kids.length := by omega
          rw [getD_at hjl] at hz1
          refine ⟨z, by rw [hup]; exact hjl, ?_, hz2⟩
          rw [← hz1]
          congr 1
          rw [hup]
        obtain ⟨σ4, hf4, hF⟩ := fits_ok (ht.fr hf3) hp3.ints hit hwf (by omega) hpos1 hmem1 hvk
        cases hfs : fitsS t (popS t[i].up path) i t[i] with
        | false =>
          rw [hfs] at hF
          simp only [sC, reduceIte, Nat.reduceEqDiff, stepOp, opMov, opNot, sO, B13_12, c0, c3, c5, opCall, argsOf, hF] at hr
          exact ⟨_, _, hf3.trans hf4, .inl ⟨by simp, hr.symm, by simp only [V_U, Nat.reduceEqDiff, reduceIte]⟩⟩
        | true =>
          rw [hfs] at hF
          have hstep : stepR t i path cnt = some (popS t[i].up path ++ [i], cnt.set u (cnt[u] + 1)) := by
            unfold stepR; rw [if_neg hi0, hgi, htn, if_pos hyes, hfs, hcu]; rfl
          have hnew : Fr σ0 (σ4.new (.cells true 3 [.int .i64 (i : Int)])) := (hf3.trans hf4).trans (Fr.new _ _)
          obtain ⟨σ6, hap, hn6, hg6, ho6, hf6⟩ := ap_own (σ := σ4.new (.cells true 3 [.int .i64 (i : Int)])) (b := bp) (c := σ4.next) (l := popS t[i].up path) (i := i) ((hp3.fr hf4).fr (Fr.new _ _)) (St.get_new_same _ _) (by omega)
          have hk6 : OwnI σ6 bk (cnt.set u (cnt[u] + 1)) := by
            have hk5 := (hk3.fr hf4).fr (Fr.new σ4 (.cells true 3 [.int .i64 (i : Int)]))
            exact hk5.same (by rw [hn6]; exact Nat.le_succ _) (hg6 bk hk5.1 (Ne.symm hbb))
          simp only [sC, reduceIte, Nat.reduceEqDiff, stepOp, opMov, opNot, sO, B13_12, B13_13, c0, c3, c5, c37, hi0', opCall, argsOf, hF, opBuildSlice_s, bsS, fillL_int1, List.map_cons, List.map_nil, Bool.false_eq_true, opAppend_s, hap, hw] at hr
          obtain ⟨e', σ', hf', hh⟩ := right_loop ht hwf hN bk hbk m (i + 1) (popS t[i].up path ++ [i]) (cnt.set u (cnt[u] + 1)) _ _ σ6 r (by omega) (hv.step hit hstep) (hf6 σ0 hnew hbp) (Nat.le_trans hbp (Nat.le_of_lt ((hp3.fr hf4).fr (Fr.new _ _)).1)) (by
              have := ((hk3.fr hf4).fr (Fr.new σ4 (.cells true 3 [.int .i64 (i : Int)]))).1
              omega) ho6 hk6 hr (by simp only [V_U, Nat.reduceEqDiff, reduceIte, c0]) (by simp only [V_U, Nat.reduceEqDiff, reduceIte]) (by simp only [V_U, Nat.reduceEqDiff, reduceIte, c4]) (by simp only [V_U, Nat.reduceEqDiff, reduceIte, c35]) (by simp only [V_U, Nat.reduceEqDiff, reduceIte, c36]) (by simp only [V_U, Nat.reduceEqDiff, reduceIte])
          refine ⟨e', σ', hf', ?_⟩
          rw [hcu]
          simpa using hh
end Go.Ab.Dirs
end
