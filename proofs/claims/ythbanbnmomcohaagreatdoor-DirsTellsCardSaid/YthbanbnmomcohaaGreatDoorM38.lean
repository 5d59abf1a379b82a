/- dirs.All. -/
import Derived.Test.YthbanbnmomcohaaGreatDoorM37
import Derived.Test.YthbanbnmomcohaaGreatDoorM30
set_option linter.all false
set_option linter.unusedSimpArgs false
set_option maxRecDepth 10000
noncomputable section
namespace Go.Ab.Dirs
open Go Go.Ab

/-- The last ones of a slice. -/
theorem SlI.drop {σ : St} {s n : Nat} {v : AVal} {cs : List AVal} (h : SlI σ s v n cs) {k : Nat} (hk : k ≤ n) : ∃ v', slS s v (some (.int .i64 (k : Int))) none none = some v' ∧ SlI σ s v' (n - k) (cs.drop (k * s)) := by
  have hl := h.cs_len
  have hks : k * s ≤ n * s := Nat.mul_le_mul_right s hk
  obtain ⟨h1, h2⟩ := h
  have hb : ∀ m : Nat, k ≤ m → boundsL m m (some (.int .i64 (k : Int))) none none = some (k, m) := by
    intro m hm
    simp only [boundsL, toNo, toN, Int.toNat_natCast, Option.isSome_none, Bool.false_eq_true, if_false]
    rw [if_pos ⟨by omega, by omega⟩]
  have hsub : (n - k) * s = n * s - k * s := Nat.sub_mul _ _ _
  unfold lowV at h1
  split at h1
  · simp only [cellsIn] at h2; cases h2
    have : k = 0 := by omega
    subst this
    exact ⟨.nils, by simp only [slS, hb 0 (by omega)], trivial, by simp [cellsIn]⟩
  · rename_i b i m s'
    simp only [cellsIn] at h2
    split at h2
    · rename_i e; subst e
      split at h2
      · rename_i f e l hg
        split at h2
        · rename_i l' hs'
          cases h2
          obtain ⟨ha, hb'⟩ := sub_eq.1 hs'
          refine ⟨.slice b (i + k * s) (n - k) s, ?_, h1, ?_⟩
          · simp only [slS, hb n hk]; simp
          · simp only [cellsIn, hg, if_true]
            rw [sub_eq.2 ⟨by omega, rfl⟩]
            subst hb'
            simp only [List.drop_take, List.drop_drop, hsub]
        · simp at h2
      · simp at h2
    · simp at h2
  · rename_i m l
    simp only [cellsIn] at h2
    split at h2
    · rename_i l' ht
      cases h2
      obtain ⟨ha, hb'⟩ := takeX_eq.1 ht
      by_cases h0 : k = n
      · subst h0
        refine ⟨.rslice 0 [], by simp only [slS, hb k hk]; simp, trivial, ?_⟩
        simp only [cellsIn, Nat.sub_self, Nat.zero_mul, takeX_zero]
        rw [List.drop_of_length_le (by omega)]
      · refine ⟨.rslice (n - k) (l.drop (k * s)), ?_, trivial, ?_⟩
        · simp only [slS, hb n hk]
          rw [if_neg h0, dropX_eq.2 ⟨by omega, rfl⟩]
        · simp only [cellsIn]
          rw [takeX_eq.2 ⟨by rw [List.length_drop]; omega, rfl⟩]
          subst hb'
          simp only [List.drop_take, hsub]
    · simp at h2
  · exact absurd h1 id

theorem TreeI.tail {σ : St} {v : AVal} {t : List ND} (h : TreeI σ v t) (hp : 0 < t.length) : ∃ v', slS 6 v (some (.int .i64 1)) none none = some v' ∧ TreeI σ v' (t.drop 1) := by
  obtain ⟨cs, h1, h2⟩ := h
  obtain ⟨v', g1, g2⟩ := SlI.drop h1 (k := 1) (by omega)
  refine ⟨v', g1, cs.drop (1 * 6), ?_, ?_⟩
  · rw [List.length_drop]; exact g2
  · cases h2 with
    | nil => simp at hp
    | cons hc ht =>
      rename_i n t av kv cs ds
      have : cs.length = 6 := by rw [hc.1]; rfl
      have e : (cs ++ ds).drop (1 * 6) = ds := by rw [Nat.one_mul, ← this]; exact List.drop_left
      show NodesC σ t _
      rw [e]
      exact ht

/-- An own row of bytes. -/
def OwnB (σ : St) (b : Nat) (l : List Nat) : Prop := b < σ.next ∧ ∃ f cs, σ.get b = some (.cells f 5 cs) ∧ l.length ≤ cs.length ∧ cs.take l.length = l.map fun x : Nat => AVal.int .u8 (x : Int)
theorem OwnB.fr {σ σ' : St} {b : Nat} {l : List Nat} (h : OwnB σ b l) (hf : Fr σ σ') : OwnB σ' b l := by
  obtain ⟨h1, f, cs, h2, h3⟩ := h
  exact ⟨Nat.lt_of_lt_of_le h1 hf.next, f, cs, by rw [hf.get _ h1]; exact h2, h3⟩
theorem OwnB.sl {σ : St} {b : Nat} {l : List Nat} (h : OwnB σ b l) : SlI σ 1 (.slice b 0 l.length 1) l.length (l.map fun x : Nat => AVal.int .u8 (x : Int)) := by
  obtain ⟨h1, f, cs, h2, h3, h4⟩ := h
  refine ⟨h1, ?_⟩
  simp only [cellsIn, h2, if_true]
  rw [sub_eq.2 ⟨by omega, rfl⟩]
  simp only [List.drop_zero, Nat.mul_one, h4]
theorem OwnB.get {σ : St} {b : Nat} {l : List Nat} (h : OwnB σ b l) {i : Nat} (hi : i < l.length) {k : IntKind} : ixS 1 (.slice b 0 l.length 1) (.int k (i : Int)) = some (ixp 1 (.slice b 0 l.length 1) i) ∧ ldA σ none (ixp 1 (.slice b 0 l.length 1) i) = some (.int .u8 (l[i] : Int)) := by
  obtain ⟨h1, h2⟩ := h.sl.ix hi (k := k)
  refine ⟨h1, ?_⟩
  rw [Nat.mul_one, List.drop_eq_getElem_cons (by simpa using hi)] at h2
  have := h2.ld
  simpa using this
theorem OwnB.store {σ σ0 : St} {b : Nat} {l : List Nat} (h : OwnB σ b l) {i : Nat} (hi : i < l.length) (w : Nat) (h0 : Fr σ0 σ) (hb : σ0.next ≤ b) :
    ∃ σ', stS σ 1 (ixp 1 (.slice b 0 l.length 1) i) (.int .u8 (w : Int)) = some σ' ∧ OwnB σ' b (l.set i w) ∧ Fr σ0 σ' ∧ σ'.next = σ.next ∧ (∀ c, c ≠ b → σ'.get c = σ.get c) := by
  obtain ⟨hlt, f, cs, hg, hl, htk⟩ := h
  have hp := putX_set cs i (.int .u8 (w : Int)) (by omega)
  refine ⟨σ.put b (.cells f 5 (cs.set i (.int .u8 (w : Int)))), ?_, ⟨hlt, f, _, St.get_put_same _ _ _, ?_, ?_⟩, h0.put hb _, rfl, fun c hc => St.get_put_other _ _ hc⟩
  · simp only [ixp, stS_ptr, hg, cells_int, Nat.zero_add, Nat.mul_one, lenL_eq, List.length_cons, List.length_nil, allOne, one_int, Bool.and_true, and_self, if_true, hp]
  · simp only [List.length_set]; exact hl
  · simp only [List.length_set]
    rw [List.take_set, htk, List.map_set]

/-- A node's parent stands ahead of it. -/
theorem rightG_up (t : List ND) : ∀ (m i : Nat) (path cnt cnt' : List Nat), i + m = t.length → InvF t i path cnt → rightG t m i path cnt = some cnt' →
    ∀ j, i ≤ j → 0 < j → j < t.length → ∃ u : Nat, (t.getD j dN).up = (u : Int) ∧ u < j
  | 0, i, path, cnt, cnt', hm, hv, hg => fun j h1 h2 h3 => by omega
  | m + 1, i, path, cnt, cnt', hm, hv, hg => by
    rw [rightG] at hg
    cases hs : stepR t i path cnt with
    | none => rw [hs] at hg; simp at hg
    | some pc =>
      obtain ⟨p, c⟩ := pc
      rw [hs] at hg
      obtain ⟨hv', q, hq, hq2⟩ := hv.step (by omega) hs
      intro j h1 h2 h3
      by_cases e : j = i
      · subst e
        obtain ⟨e1, e2⟩ := hq2 (by omega)
        subst e1
        obtain ⟨l, u, w1, w2⟩ := popS_last _ _ e2
        refine ⟨u, w2.symm, ?_⟩
        obtain ⟨k, hk⟩ := popS_take (t.getD j dN).up path
        have : u ∈ path := by
          have : u ∈ popS (t.getD j dN).up path := by rw [w1]; simp
          rw [hk] at this; exact List.mem_of_mem_take this
        rcases hv.pos u this with h | h <;> omega
      · exact rightG_up t m (i + 1) p c cnt' (by omega) hv' hg j (by omega) h2 h3
theorem right_up {t : List ND} (h : rightS t = true) {j : Nat} (hj : 0 < j) (hjt : j < t.length) : ∃ u : Nat, t[j].up = (u : Int) ∧ u < j := by
  unfold rightS at h
  rw [Bool.and_eq_true] at h
  obtain ⟨h1, h2⟩ := h
  cases hg : rightG t t.length 0 [0] (List.replicate t.length 0) with
  | none => rw [hg] at h2; simp at h2
  | some cnt =>
    have hv : InvF t 0 [0] (List.replicate t.length 0) := by
      refine ⟨fun p hp => by simp at hp; exact .inr hp, by simp, fun u hu j hj => ?_⟩
      have : (List.replicate t.length 0).getD u 0 = 0 := by rw [getD_at (by simpa using hu)]; simp
      omega
    have := rightG_up t t.length 0 [0] _ cnt (by omega) hv hg j (Nat.zero_le _) hj hjt
    rwa [getD_at hjt] at this

/-- The ways of all nodes, one after the other. -/
def allStep (t : List ND) (i : Nat) (out : List Nat) : List Nat :=
  if (t.getD i dN).kind = 1 then
    match sheetD t i with
    | some w => (out.set i (out.getD (t.getD i dN).up.toNat 0)).set i w
    | none => out.set i (out.getD (t.getD i dN).up.toNat 0)
  else out.set i (out.getD (t.getD i dN).up.toNat 0)
theorem allStep_len {t : List ND} {i : Nat} {out : List Nat} : (allStep t i out).length = out.length := by
  unfold allStep; repeat' split
  all_goals simp
def allG (t : List ND) : Nat → Nat → List Nat → List Nat
  | 0, _, out => out
  | m + 1, i, out => allG t m (i + 1) (allStep t i out)
def allS (t : List ND) : List Nat := allG t (t.length - 1) 1 (List.replicate t.length 0)

set_option maxHeartbeats 4000000 in
theorem all_loop {σ0 : St} {t : List ND} {tv tv' : AVal} (ht : TreeI σ0 tv t) (ht' : TreeI σ0 tv' (t.drop 1)) (hwf : ∀ n ∈ t, NWF n) (hR : rightS t = true) (bo : Nat) (hbo : σ0.next ≤ bo) : ∀ (m i : Nat) (out : List Nat) (e : Env) (σ : St) (r : Option (Out × Env × St)), i + m = t.length - 1 → out.length = t.length →
    Fr σ0 σ → OwnB σ bo out → Ew TS false (.loop L11_1) e σ = r →
    V e 0 = tv → V e 4 = .slice bo 0 out.length 1 → V e 17 = tv' → V e 18 = .int .i64 ((t.length - 1 : Nat) : Int) → V e 19 = .int .i64 (i : Int) →
    ∃ e' σ', Fr σ0 σ' ∧ r = some (.exit 0, e', σ') ∧ V e' 4 = .slice bo 0 out.length 1 ∧ OwnB σ' bo (allG t m (i + 1) out) ∧ (allG t m (i + 1) out).length = t.length
  | 0, i, out, e, σ, r, hi, ho, hf, hB, hr, h0, h4, h17, h18, h19 => by
    have hlt : ¬ ((i : Int) < ((t.length - 1 : Nat) : Int)) := by omega
    rw [Ew_loop] at hr
    simp only [L11_1, sA, reduceIte, Nat.reduceEqDiff, Int.reduceLT, Int.reduceLE, Int.reduceEq, Int.reduceNeg, reduceCtorEq, Nat.reduceAdd, h18, h19, hlt] at hr
    exact ⟨_, _, hf, hr.symm, by simp only [sV, Nat.reduceEqDiff, reduceIte, Nat.reduceAdd, h4], hB, ho⟩
  | m + 1, i, out, e, σ, r, hi, ho, hf, hB, hr, h0, h4, h17, h18, h19 => by
    have hlt : ((i : Int) < ((t.length - 1 : Nat) : Int)) := by omega
    have hit : i + 1 < t.length := by omega
    obtain ⟨hk, -, -, hN⟩ := right_facts hR
    have hw : wrapI .i64 ((i : Int) + 1) = ((i + 1 : Nat) : Int) := by rw [wrap_i64 (by omega) (by omega)]; omega
    have hd : i < (t.drop 1).length := by rw [List.length_drop]; omega
    obtain ⟨av, kv, x1, x2⟩ := (ht'.fr hf).get hd
    have hel : (t.drop 1)[i] = t[i + 1] := by rw [List.getElem_drop]; congr 1; omega
    rw [hel] at x2
    have x1 := x1 .i64
    obtain ⟨u, hu, hui⟩ := right_up hR (j := i + 1) (by omega) hit
    have o1 := x2.attrs.one
    have o2 := x2.kids.one
    have hcp := Copy.of (z := .nils) (f := true) (t := 36) (zs := [.int .u8 0, .str [], .nils, .str [], .int .i64 0, .nils]) x2
    have hf2 : Fr σ ((σ.new (.cells true 36 [.int .u8 0, .str [], .nils, .str [], .int .i64 0, .nils])).put σ.next (.cells true 36 [.int .u8 (t[i + 1].kind : Int), .str t[i + 1].name, av, .str t[i + 1].data, .int .i64 t[i + 1].up, kv])) := (Fr.new _ _).put (Nat.le_refl _) _
    have x2l := x2.ld
    generalize e2 : (σ.new (.cells true 36 [.int .u8 0, .str [], .nils, .str [], .int .i64 0, .nils])).put σ.next (.cells true 36 [.int .u8 (t[i + 1].kind : Int), .str t[i + 1].name, av, .str t[i + 1].data, .int .i64 t[i + 1].up, kv]) = σ2 at hcp hf2
    obtain ⟨⟨fc, ec, gc⟩, gclt, -, -⟩ := id hcp
    rw [hu] at gc
    have hB2 := hB.fr hf2
    have huo : u < out.length := by omega
    have hio : i + 1 < out.length := by omega
    obtain ⟨u1, u2⟩ := hB2.get huo (k := .i64)
    obtain ⟨w1, -⟩ := hB2.get hio (k := .i64)
    obtain ⟨σ3, s1, hB3, hf3, hn3, hk3⟩ := hB2.store hio out[u] (hf.trans hf2) hbo
    have hbne : σ.next ≠ bo := by have := hB.1; omega
    have gc3 : σ3.get σ.next = some (.cells fc ec [.int .u8 (t[i + 1].kind : Int), .str t[i + 1].name, av, .str t[i + 1].data, .int .i64 (u : Int), kv]) := by rw [hk3 _ hbne]; exact gc
    have hgi : t.getD (i + 1) dN = t[i + 1] := getD_at hit dN
    have hst : allStep t (i + 1) out = if t[i + 1].kind = 1 then (match sheetD t (i + 1) with | some w => (out.set (i + 1) out[u]).set (i + 1) w | none => out.set (i + 1) out[u]) else out.set (i + 1) out[u] := by
      unfold allStep
      rw [hgi, hu, Int.toNat_natCast, getD_at huo]
    have hlen : (out.set (i + 1) out[u]).length = out.length := List.length_set
    rw [allG, hst]
    rw [Ew_loop] at hr
    by_cases hkd : t[i + 1].kind = 1
    · rw [if_pos hkd]
      have hkd' := eq_true (show (t[i + 1].kind : Int) = 1 by omega)
      obtain ⟨σ4, hf4, hsh⟩ := sheet_ok (ht.fr hf3) hwf hk hit
      have hB4 := hB3.fr hf4
      cases hsd : sheetD t (i + 1) with
      | none =>
        rw [hsd] at hsh
        simp only [L11_1, B11_6, B11_1, B11_2, B11_3, B11_4, B11_5, sC, reduceIte, Nat.reduceEqDiff, sO, Int.reduceLT, Int.reduceLE, Int.reduceEq, Int.reduceNeg, reduceCtorEq, sF, Nat.reduceAdd, opAlloc, allOne, St.newK_eq, opStore_s, opLoad_s, opFieldAddr_s, opIaSl_s, fldA_ptr, ldA_ptr, stS_ptr, St.get_new_same, loadL_none, putX_all6, cells_agg, one_int, one_str, List.length_cons, List.length_nil, Nat.zero_add, dropX_zero, dropX_4, Bool.and_true, and_true, true_and, Bool.false_eq_true, h0, h4, h17, h18, h19, hlt, x1, x2l, o1, o2, e2, gc, u1, u2, w1, s1, gc3, hkd', hw, opCall, argsOf, hsh, opExtract, dropX_1, dropX_2, Option.isSome_none] at hr
        obtain ⟨e', σ', hf', g1, g2, g3, g4⟩ := all_loop ht ht' hwf hR bo hbo m (i + 1) (out.set (i + 1) out[u]) _ σ4 r (by omega) (by rw [hlen]; exact ho) (hf3.trans hf4) hB4 hr (by simp only [sV, Nat.reduceEqDiff, reduceIte, Nat.reduceAdd, h0]) (by simp only [sV, Nat.reduceEqDiff, reduceIte, Nat.reduceAdd, h4, hlen]) (by simp only [sV, Nat.reduceEqDiff, reduceIte, Nat.reduceAdd, h17]) (by simp only [sV, Nat.reduceEqDiff, reduceIte, Nat.reduceAdd, h18]) (by simp only [sV, Nat.reduceEqDiff, reduceIte, Nat.reduceAdd])
        rw [hlen] at g2
        exact ⟨e', σ', hf', g1, g2, g3, g4⟩
      | some w =>
        rw [hsd] at hsh
        have hio' : i + 1 < (out.set (i + 1) out[u]).length := by rw [hlen]; exact hio
        obtain ⟨v1, -⟩ := hB4.get hio' (k := .i64)
        obtain ⟨σ5, s5, hB5, hf5, hn5, hk5⟩ := hB4.store hio' w (hf3.trans hf4) hbo
        rw [hlen] at v1 s5
        simp only [L11_1, B11_6, B11_1, B11_2, B11_3, B11_4, B11_5, sC, reduceIte, Nat.reduceEqDiff, sO, Int.reduceLT, Int.reduceLE, Int.reduceEq, Int.reduceNeg, reduceCtorEq, sF, Nat.reduceAdd, opAlloc, allOne, St.newK_eq, opStore_s, opLoad_s, opFieldAddr_s, opIaSl_s, fldA_ptr, ldA_ptr, stS_ptr, St.get_new_same, loadL_none, putX_all6, cells_agg, one_int, one_str, List.length_cons, List.length_nil, Nat.zero_add, dropX_zero, dropX_4, Bool.and_true, and_true, true_and, Bool.false_eq_true, h0, h4, h17, h18, h19, hlt, x1, x2l, o1, o2, e2, gc, u1, u2, w1, s1, gc3, hkd', hw, opCall, argsOf, hsh, opExtract, dropX_1, dropX_2, Option.isSome_some, Option.getD_some, v1, s5] at hr
        have hlen2 : ((out.set (i + 1) out[u]).set (i + 1) w).length = out.length := by rw [List.length_set, hlen]
        obtain ⟨e', σ', hf', g1, g2, g3, g4⟩ := all_loop ht ht' hwf hR bo hbo m (i + 1) ((out.set (i + 1) out[u]).set (i + 1) w) _ σ5 r (by omega) (by rw [hlen2]; exact ho) hf5 hB5 hr (by simp only [sV, Nat.reduceEqDiff, reduceIte, Nat.reduceAdd, h0]) (by simp only [sV, Nat.reduceEqDiff, reduceIte, Nat.reduceAdd, h4, hlen2]) (by simp only [sV, Nat.reduceEqDiff, reduceIte, Nat.reduceAdd, h17]) (by simp only [sV, Nat.reduceEqDiff, reduceIte, Nat.reduceAdd, h18]) (by simp only [sV, Nat.reduceEqDiff, reduceIte, Nat.reduceAdd])
        rw [hlen2] at g2
        exact ⟨e', σ', hf', g1, g2, g3, g4⟩
    · rw [if_neg hkd]
      have hkd' : ¬ (t[i + 1].kind : Int) = 1 := by omega
      simp only [L11_1, B11_6, B11_1, B11_2, B11_3, sC, reduceIte, Nat.reduceEqDiff, sO, Int.reduceLT, Int.reduceLE, Int.reduceEq, Int.reduceNeg, reduceCtorEq, sF, Nat.reduceAdd, opAlloc, allOne, St.newK_eq, opStore_s, opLoad_s, opFieldAddr_s, opIaSl_s, fldA_ptr, ldA_ptr, stS_ptr, St.get_new_same, loadL_none, putX_all6, cells_agg, one_int, one_str, List.length_cons, List.length_nil, Nat.zero_add, dropX_zero, dropX_4, Bool.and_true, and_true, true_and, Bool.false_eq_true, h0, h4, h17, h18, h19, hlt, x1, x2l, o1, o2, e2, gc, u1, u2, w1, s1, gc3, hkd', hw] at hr
      obtain ⟨e', σ', hf', g1, g2, g3, g4⟩ := all_loop ht ht' hwf hR bo hbo m (i + 1) (out.set (i + 1) out[u]) _ σ3 r (by omega) (by rw [hlen]; exact ho) hf3 hB3 hr (by simp only [sV, Nat.reduceEqDiff, reduceIte, Nat.reduceAdd, h0]) (by simp only [sV, Nat.reduceEqDiff, reduceIte, Nat.reduceAdd, h4, hlen]) (by simp only [sV, Nat.reduceEqDiff, reduceIte, Nat.reduceAdd, h17]) (by simp only [sV, Nat.reduceEqDiff, reduceIte, Nat.reduceAdd, h18]) (by simp only [sV, Nat.reduceEqDiff, reduceIte, Nat.reduceAdd])
      rw [hlen] at g2
      exact ⟨e', σ', hf', g1, g2, g3, g4⟩

theorem rep_b : ∀ n : Nat, rep [.int .u8 0] n = (List.replicate n 0).map fun x : Nat => AVal.int .u8 (x : Int)
  | 0 => rfl
  | n + 1 => by rw [rep, rep_b n]; rfl

theorem All_ok {σ : St} {t : List ND} {tv : AVal} (ht : TreeI σ tv t) (hwf : ∀ n ∈ t, NWF n) :
    ∃ σ', Fr σ σ' ∧ ((rightS t = false ∧ Cw TS false 11 [tv] σ = some (.tuple [.nils, .int .i64 53], σ')) ∨
      (rightS t = true ∧ ∃ b, σ.next ≤ b ∧ OwnB σ' b (allS t) ∧ (allS t).length = t.length ∧ Cw TS false 11 [tv] σ = some (.tuple [.slice b 0 t.length 1, .int .i64 0], σ'))) := by
  obtain ⟨σ1, hf1, hR⟩ := Right_ok ht hwf
  rw [Cw_of fn11 false _ σ rfl]
  cases hr : rightS t with
  | false =>
    rw [hr, if_neg (by decide)] at hR
    simp only [c11, B11_7, B11_8, B11_9, B11_10, B11_11, sA, reduceIte, Nat.reduceEqDiff, Int.reduceLT, Int.reduceLE, Int.reduceEq, Int.reduceNeg, reduceCtorEq, Nat.reduceAdd, opCall, argsOf, hR]
    exact ⟨_, hf1, .inl ⟨trivial, rfl⟩⟩
  | true =>
    rw [hr, if_pos rfl] at hR
    obtain ⟨hk, -, hpos, hN⟩ := right_facts hr
    have hl1 := (ht.fr hf1).len
    have hmk := mkS_nat (σ := σ1) (e := 5) (s := 1) (bytes := 1) (n := t.length) (z := [.int .u8 0]) (by omega) (by omega)
    have hf2 : Fr σ1 (σ1.new (.cells true 5 (rep [.int .u8 0] t.length))) := Fr.new _ _
    obtain ⟨tv', s1, ht'⟩ := TreeI.tail (ht.fr hf1) hpos
    have hl' := (ht'.fr hf2).len
    rw [List.length_drop] at hl'
    have hB : OwnB (σ1.new (.cells true 5 (rep [.int .u8 0] t.length))) σ1.next (List.replicate t.length 0) := by
      refine ⟨Nat.lt_succ_self _, true, _, St.get_new_same _ _, ?_, ?_⟩
      · rw [rep_b]; simp
      · rw [rep_b, List.take_of_length_le (by simp)]
    simp only [c11, B11_7, B11_8, B11_9, B11_10, B11_11, sA, reduceIte, Nat.reduceEqDiff, Int.reduceLT, Int.reduceLE, Int.reduceEq, Int.reduceNeg, reduceCtorEq, Nat.reduceAdd, opCall, argsOf, hR, hl1, opMkSlice_s, hmk, Bool.false_eq_true, opSlSl_s, Option.map_none, Option.map_some, s1, hl']
    generalize hrr : Ew TS false (.loop L11_1) _ _ = rr
    have hrl : (List.replicate t.length 0).length = t.length := List.length_replicate
    obtain ⟨e', σ', hf', rfl, g2, g3, g4⟩ := all_loop (ht.fr hf1) ht' hwf hr σ1.next (Nat.le_refl _) (t.length - 1) 0 (List.replicate t.length 0) _ _ rr (by omega) hrl hf2 hB hrr (by simp only [sV, Nat.reduceEqDiff, reduceIte, Nat.reduceAdd]) (by simp only [sV, Nat.reduceEqDiff, reduceIte, Nat.reduceAdd, hrl]) (by simp only [sV, Nat.reduceEqDiff, reduceIte, Nat.reduceAdd]) (by simp only [sV, Nat.reduceEqDiff, reduceIte, Nat.reduceAdd]) (by simp only [sV, Nat.reduceEqDiff, reduceIte, Nat.reduceAdd]; rfl)
    rw [hrl] at g2
    refine ⟨σ', hf1.trans hf', .inr ⟨trivial, σ1.next, hf1.next, g3, g4, ?_⟩⟩
    simp only [B11_11, sA, reduceIte, Nat.reduceEqDiff, Int.reduceLT, Int.reduceLE, Int.reduceEq, Int.reduceNeg, reduceCtorEq, Nat.reduceAdd, g2]
end Go.Ab.Dirs
end

set_option maxRecDepth 100000
noncomputable section
namespace Go.Ab.Dirs
open Go Go.Ab

theorem right_node {t : List ND} (h : rightS t = true) {i : Nat} (h0 : 0 < i) (hi : i < t.length) : ((t.getD i nd0).kind = 1 ∧ (t.getD i nd0).data = []) ∨ ((t.getD i nd0).kind = 2 ∧ validS (t.getD i nd0).data = true) := by
  have hn := (rightP_iff.2 h).node i hi
  unfold nodeR at hn
  by_cases k0 : (t.getD i nd0).kind = 0
  · rw [if_pos k0, decide_eq_false (show ¬ (i : Int) = 0 by omega)] at hn; simp at hn
  · rw [if_neg k0] at hn
    by_cases k1 : (t.getD i nd0).kind = 1
    · rw [if_pos k1] at hn; simp only [Bool.and_eq_true, decide_eq_true_eq] at hn; exact .inl ⟨k1, hn.1.1.2⟩
    · rw [if_neg k1] at hn
      by_cases k2 : (t.getD i nd0).kind = 2
      · rw [if_pos k2] at hn; simp only [Bool.and_eq_true, decide_eq_true_eq] at hn
        have := hn.2; unfold wellS at this; rw [Bool.and_eq_true] at this
        exact .inr ⟨k2, this.1⟩
      · rw [if_neg k2] at hn; exact absurd hn (by decide)

def sheetV (d : Option Nat) (b : Nat) : AVal := .tuple [.int .u8 ((d.getD 0 : Nat) : Int), .bool d.isSome, .int .u8 (b : Int)]
/-! Own rows of bytes. -/
def stB (σ : St) (b i w : Nat) : St := (stS σ 1 (.ptr b i) (.int .u8 (w : Int))).getD σ
section
variable {σ σ0 : St} {b : Nat} {l : List Nat} {i w : Nat}
theorem OwnB.ld (h : OwnB σ b l) (hi : i < l.length) : ldA σ none (.ptr b i) = some (.int .u8 ((l.getD i 0 : Nat) : Int)) := by
  obtain ⟨_, f, cs, hg, hl, ht⟩ := h
  have h1 : cs[i]? = some (.int .u8 ((l.getD i 0 : Nat) : Int)) := by
    have h2 := congrArg (fun x => x[i]?) ht
    simp only [List.getElem?_take, hi, if_true, List.getElem?_map] at h2
    rw [h2, List.getElem?_eq_getElem hi, getD_lt hi]; rfl
  obtain ⟨h3, h4⟩ := List.getElem?_eq_some_iff.1 h1
  rw [ldA_ptr, hg]
  simp only
  rw [dropX_get h3, h4]; rfl
theorem OwnB.stE (h : OwnB σ b l) (hi : i < l.length) : ∃ f cs, σ.get b = some (.cells f 5 cs) ∧ i < cs.length ∧ stS σ 1 (.ptr b i) (.int .u8 (w : Int)) = some (σ.put b (.cells f 5 (cs.set i (.int .u8 (w : Int))))) := by
  obtain ⟨_, f, cs, hg, hl, ht⟩ := h
  refine ⟨f, cs, hg, by omega, ?_⟩
  rw [stS_ptr, hg]
  simp only [cells_int, lenL_eq, List.length_cons, List.length_nil, Nat.zero_add, allOne, one_int, Bool.and_true, and_self, if_true, putX_set cs i _ (by omega : i < cs.length)]
theorem OwnB.st (h : OwnB σ b l) (hi : i < l.length) : stS σ 1 (.ptr b i) (.int .u8 (w : Int)) = some (stB σ b i w) := by
  obtain ⟨f, cs, _, _, h1⟩ := h.stE hi (w := w)
  unfold stB; rw [h1]; rfl
theorem OwnB.stB (h : OwnB σ b l) (hi : i < l.length) : OwnB (stB σ b i w) b (l.set i w) := by
  obtain ⟨f, cs, hg, hl, h1⟩ := h.stE hi (w := w)
  obtain ⟨hlt, f', cs', hg', hl', ht'⟩ := h
  rw [hg] at hg'; cases hg'
  unfold Dirs.stB; rw [h1]
  refine ⟨hlt, f, _, St.get_put_same _ _ _, by simpa using hl', ?_⟩
  rw [List.length_set, List.take_set, ht', List.map_set]
theorem OwnB.frB (h : OwnB σ b l) (hi : i < l.length) (hf : Fr σ0 σ) (hb : σ0.next ≤ b) : Fr σ0 (Dirs.stB σ b i w) := by
  obtain ⟨f, cs, hg, hl, h1⟩ := h.stE hi (w := w)
  unfold Dirs.stB; rw [h1]; exact hf.put hb _
end
theorem allG_snoc (t : List ND) : ∀ (m i : Nat) (out : List Nat), allG t (m + 1) i out = allStep t (i + m) (allG t m i out)
  | 0, i, out => rfl
  | m + 1, i, out => by
    show allG t (m + 1) (i + 1) (allStep t i out) = _
    rw [allG_snoc t m (i + 1), show i + 1 + m = i + (m + 1) by omega]; rfl
theorem allG_len (t : List ND) : ∀ (m i : Nat) (out : List Nat), (allG t m i out).length = out.length
  | 0, i, out => rfl
  | m + 1, i, out => by
    show (allG t m (i + 1) (allStep t i out)).length = _
    rw [allG_len t m, allStep_len]

section
variable {σ s0 : St} {t : List ND} {tv : AVal}
theorem pSheet_ok (ht : TreeI σ tv t) (hwf : ∀ n ∈ t, NWF n) {i : Int} (hf0 : Fr σ s0) : CW TS false 17 [tv, .int .i64 i] s0 fun v s => Fr σ s ∧ v = if elemS t i = true then sheetV (sheetD t i.toNat) (sheetB t i.toNat) else sheetV none 0 := by
  refine CW_of fn17 rfl ?_
  repeat' (first | ((first | apply RG_step | apply DG_step | apply DG_read); focus (intro hgd; have hgd2 := hgd; (try simp only [sB] at hgd); (try simp only [sP] at hgd2); simp (maxSteps := 1000000) (disch := (first | omega | assumption | exact Fr.refl _)) only [hgd, sR, reduceIte, Nat.reduceEqDiff, Int.reduceLT, Int.reduceLE, Int.reduceEq, Int.reduceNeg, reduceCtorEq, Nat.reduceAdd, Int.reduceToNat, c17]; exact StepIs_refl)) | ((first | refine Br_intro ?_ ?_ | refine BrB_intro ?_ ?_) <;> intro hbr hbe <;> simp (maxSteps := 1000000) (disch := (first | omega | assumption | exact Fr.refl _)) only [hbe, sR, reduceIte, Nat.reduceEqDiff, Int.reduceLT, Int.reduceLE, Int.reduceEq, Int.reduceNeg, reduceCtorEq, Nat.reduceAdd, Int.reduceToNat, c17] <;> clear hbe) | simp (maxSteps := 1000000) (disch := (first | omega | assumption | exact Fr.refl _)) only [sR, reduceIte, Nat.reduceEqDiff, Int.reduceLT, Int.reduceLE, Int.reduceEq, Int.reduceNeg, reduceCtorEq, Nat.reduceAdd, Int.reduceToNat, c17])
  refine Bd_call (CW_fr (element_ok (ht.fr hf0) hwf i)) ?_
  rintro _ s1 ⟨rfl, hf1⟩
  have hf1 := hf0.trans hf1
  repeat' (first | ((first | apply RG_step | apply DG_step | apply DG_read); focus (intro hgd; have hgd2 := hgd; (try simp only [sB] at hgd); (try simp only [sP] at hgd2); simp (maxSteps := 1000000) (disch := (first | omega | assumption | exact Fr.refl _)) only [hgd, sR, reduceIte, Nat.reduceEqDiff, Int.reduceLT, Int.reduceLE, Int.reduceEq, Int.reduceNeg, reduceCtorEq, Nat.reduceAdd, Int.reduceToNat]; exact StepIs_refl)) | ((first | refine Br_intro ?_ ?_ | refine BrB_intro ?_ ?_) <;> intro hbr hbe <;> simp (maxSteps := 1000000) (disch := (first | omega | assumption | exact Fr.refl _)) only [hbe, sR, reduceIte, Nat.reduceEqDiff, Int.reduceLT, Int.reduceLE, Int.reduceEq, Int.reduceNeg, reduceCtorEq, Nat.reduceAdd, Int.reduceToNat] <;> clear hbe) | simp (maxSteps := 1000000) (disch := (first | omega | assumption | exact Fr.refl _)) only [sR, reduceIte, Nat.reduceEqDiff, Int.reduceLT, Int.reduceLE, Int.reduceEq, Int.reduceNeg, reduceCtorEq, Nat.reduceAdd, Int.reduceToNat])
  · have he := hbr
    unfold elemS at he
    simp only [Bool.and_eq_true, decide_eq_true_eq] at he
    obtain ⟨h1, h2, h3, h4⟩ := he
    obtain ⟨z, rfl⟩ := Int.eq_ofNat_of_zero_le (by omega : 0 ≤ i)
    refine Bd_call (CW_fr (sheet_ok (ht.fr hf1) hwf (right_facts h4).1 (by omega : z < t.length))) ?_
    rintro _ s2 ⟨rfl, hf2⟩
    repeat' (first | ((first | apply RG_step | apply DG_step | apply DG_read); focus (intro hgd; have hgd2 := hgd; (try simp only [sB] at hgd); (try simp only [sP] at hgd2); simp (maxSteps := 1000000) (disch := (first | omega | assumption | exact Fr.refl _)) only [hgd, sR, reduceIte, Nat.reduceEqDiff, Int.reduceLT, Int.reduceLE, Int.reduceEq, Int.reduceNeg, reduceCtorEq, Nat.reduceAdd, Int.reduceToNat, opExtract, hbr, Int.toNat_natCast]; exact StepIs_refl)) | ((first | refine Br_intro ?_ ?_ | refine BrB_intro ?_ ?_) <;> intro hbr hbe <;> simp (maxSteps := 1000000) (disch := (first | omega | assumption | exact Fr.refl _)) only [hbe, sR, reduceIte, Nat.reduceEqDiff, Int.reduceLT, Int.reduceLE, Int.reduceEq, Int.reduceNeg, reduceCtorEq, Nat.reduceAdd, Int.reduceToNat, opExtract, hbr, Int.toNat_natCast] <;> clear hbe) | simp (maxSteps := 1000000) (disch := (first | omega | assumption | exact Fr.refl _)) only [sR, reduceIte, Nat.reduceEqDiff, Int.reduceLT, Int.reduceLE, Int.reduceEq, Int.reduceNeg, reduceCtorEq, Nat.reduceAdd, Int.reduceToNat, opExtract, hbr, Int.toNat_natCast])
    exact ⟨hf1.trans hf2, rfl⟩
  · exact ⟨hf1, rfl⟩
end
theorem eqV_bool (a b : Bool) : eqV .bool (.bool a) (.bool b) = some (a == b) := by simp only [eqV]
theorem OwnB.ix {σ : St} {b : Nat} {l : List Nat} (h : OwnB σ b l) {i : Nat} (hi : i < l.length) : ldA σ none (.ptr b (0 + i * 1)) = some (.int .u8 ((l.getD i 0 : Nat) : Int)) := by
  rw [Nat.zero_add, Nat.mul_one]; exact h.ld hi
theorem All_cw {σ s0 : St} {t : List ND} {tv : AVal} (ht : TreeI σ tv t) (hwf : ∀ n ∈ t, NWF n) (hf0 : Fr σ s0) : CW TS false 11 [tv] s0 fun v s => Fr s0 s ∧ ((rightS t = false ∧ v = .tuple [.nils, .int .i64 53]) ∨ (rightS t = true ∧ ∃ b, s0.next ≤ b ∧ OwnB s b (allS t) ∧ (allS t).length = t.length ∧ v = .tuple [.slice b 0 t.length 1, .int .i64 0])) := by
  obtain ⟨s, hf, ⟨h1, h2⟩ | ⟨h1, b, h2, h3, h4, h5⟩⟩ := All_ok (ht.fr hf0) hwf
  · exact CW_iff.2 ⟨_, s, h2, hf, .inl ⟨h1, rfl⟩⟩
  · exact CW_iff.2 ⟨_, s, h5, hf, .inr ⟨h1, b, h2, h3, h4, rfl⟩⟩

end Go.Ab.Dirs
end

set_option maxRecDepth 100000
noncomputable section
namespace Go.Ab.Dirs
open Go Go.Ab

theorem scanL_cons (g : Nat → Option Nat) (z : Int) (l : List Int) : scanL g (z :: l) = match g z.toNat with | some w => some w | none => scanL g l := rfl
set_option maxHeartbeats 8000000 in
theorem rScan_f {σ : St} {t : List ND} {tv : AVal} (ht : TreeI σ tv t) (hwf : ∀ n ∈ t, NWF n) (hsh : Short t) (hR : rightS t = true) : ∀ f i, i < t.length → t.length - i ≤ f → ∀ s, Fr σ s → CW TS false 19 [tv, .int .i64 (i : Int)] s fun v s' => v = wayV (scanF t f i) ∧ Fr σ s'
  | 0, i, hi, hf, _, _ => by omega
  | f + 1, i, hi, hfl, s0, hf0 => by
    have hn := hwf t[i] (List.getElem_mem _)
    rw [← getD_lt hi nd0] at hn
    have hkl := hn.klen
    have hkt := (right_facts hR).1 i hi
    have hkin : ∀ k, k < (t.getD i nd0).kids.length → ∃ z : Nat, (t.getD i nd0).kids.getD k 0 = (z : Int) ∧ i < z ∧ z < t.length := fun k hk => by
      obtain ⟨z, h1, h2, h3⟩ := hkt ((t.getD i nd0).kids.getD k 0) (by rw [getD_lt hk]; exact List.getElem_mem _)
      exact ⟨z, h1, h2, h3⟩
    have hd : ∀ k, k < (t.getD i nd0).kids.length → (t.getD i nd0).kids.drop k = (t.getD i nd0).kids.getD k 0 :: (t.getD i nd0).kids.drop (k + 1) := fun k h => by rw [List.drop_eq_getElem_cons h, getD_lt h]
    refine CW_of fn19 rfl ?_
    repeat' (first | ((first | apply RG_step | apply DG_step | apply DG_read); focus (intro hgd; have hgd2 := hgd; (try simp only [sB] at hgd); (try simp only [sP] at hgd2); simp (maxSteps := 1000000) (disch := (first | omega | assumption | exact Fr.refl _)) only [hgd, sR, reduceIte, Nat.reduceEqDiff, Int.reduceLT, Int.reduceLE, Int.reduceEq, Int.reduceNeg, reduceCtorEq, Nat.reduceAdd, Int.reduceToNat, c19]; exact StepIs_refl)) | ((first | refine Br_intro ?_ ?_ | refine BrB_intro ?_ ?_) <;> intro hbr hbe <;> simp (maxSteps := 1000000) (disch := (first | omega | assumption | exact Fr.refl _)) only [hbe, sR, reduceIte, Nat.reduceEqDiff, Int.reduceLT, Int.reduceLE, Int.reduceEq, Int.reduceNeg, reduceCtorEq, Nat.reduceAdd, Int.reduceToNat, c19] <;> clear hbe) | simp (maxSteps := 1000000) (disch := (first | omega | assumption | exact Fr.refl _)) only [sR, reduceIte, Nat.reduceEqDiff, Int.reduceLT, Int.reduceLE, Int.reduceEq, Int.reduceNeg, reduceCtorEq, Nat.reduceAdd, Int.reduceToNat, c19])
    rw [scanF]
    generalize hg : (fun k => match (if openS (t.getD k dN) then scanF t f k else none) with | some w => some w | none => firstS (t.getD k dN).data) = g
    have hgk : ∀ k, g k = match (if openS (t.getD k nd0) then scanF t f k else none) with | some w => some w | none => firstS (t.getD k nd0).data := fun k => by rw [← hg]
    rw [show t.getD i dN = t.getD i nd0 from rfl]
    refine W_loop (fun n e s => ∃ k : Nat, k + n = (t.getD i nd0).kids.length ∧ Fr σ s ∧ V e 0 = tv ∧ V e 1 = .int .i64 (i : Int) ∧ V e 6 = .int .i64 (k : Int) ∧ scanL g (t.getD i nd0).kids = scanL g ((t.getD i nd0).kids.drop k)) (t.getD i nd0).kids.length ⟨0, by omega, hf0, by simp only [sV, Nat.reduceEqDiff, reduceIte, Nat.reduceAdd], by simp only [sV, Nat.reduceEqDiff, reduceIte, Nat.reduceAdd], by simp only [sV, Nat.reduceEqDiff, reduceIte, Nat.reduceAdd]; rfl, rfl⟩ ?_
    rintro n e s ⟨k, hk, hf, v0, v1, v6, hN⟩
    by_cases hlt : k < (t.getD i nd0).kids.length
    · obtain ⟨z, hz, hz1, hz2⟩ := hkin k hlt
      rw [hd k hlt, scanL_cons, hz, Int.toNat_natCast, hgk] at hN
      have hnz := hwf t[z] (List.getElem_mem _)
      rw [← getD_lt hz2 nd0] at hnz
      have hsz := (hsh t[z] (List.getElem_mem _)).1
      rw [← getD_lt hz2 nd0] at hsz
      have cont : ∀ o : Option Nat, o = g z → scanL g (t.getD i nd0).kids = match o with | some w => some w | none => scanL g ((t.getD i nd0).kids.drop (k + 1)) := by
        rintro _ rfl; rw [hN, hgk]
      repeat' (first | ((first | apply RG_step | apply DG_step | apply DG_read); focus (intro hgd; have hgd2 := hgd; (try simp only [sB] at hgd); (try simp only [sP] at hgd2); simp (maxSteps := 1000000) (disch := (first | omega | assumption | exact Fr.refl _)) only [hgd, sR, reduceIte, Nat.reduceEqDiff, Int.reduceLT, Int.reduceLE, Int.reduceEq, Int.reduceNeg, reduceCtorEq, Nat.reduceAdd, Int.reduceToNat, L19_1, v0, v1, v6, ht.ixz, ht.a5, ht.n5, ht.kl, ht.kx, ht.kd, hz, ht.a0, ht.n0, ht.a1, ht.n1, ht.a3, ht.n3]; exact StepIs_refl)) | ((first | refine Br_intro ?_ ?_ | refine BrB_intro ?_ ?_) <;> intro hbr hbe <;> simp (maxSteps := 1000000) (disch := (first | omega | assumption | exact Fr.refl _)) only [hbe, sR, reduceIte, Nat.reduceEqDiff, Int.reduceLT, Int.reduceLE, Int.reduceEq, Int.reduceNeg, reduceCtorEq, Nat.reduceAdd, Int.reduceToNat, L19_1, v0, v1, v6, ht.ixz, ht.a5, ht.n5, ht.kl, ht.kx, ht.kd, hz, ht.a0, ht.n0, ht.a1, ht.n1, ht.a3, ht.n3] <;> clear hbe) | simp (maxSteps := 1000000) (disch := (first | omega | assumption | exact Fr.refl _)) only [sR, reduceIte, Nat.reduceEqDiff, Int.reduceLT, Int.reduceLE, Int.reduceEq, Int.reduceNeg, reduceCtorEq, Nat.reduceAdd, Int.reduceToNat, L19_1, v0, v1, v6, ht.ixz, ht.a5, ht.n5, ht.kl, ht.kx, ht.kd, hz, ht.a0, ht.n0, ht.a1, ht.n1, ht.a3, ht.n3])
      · have hgz : g z = firstS (t.getD z nd0).data := by
          rw [hgk]; have : openS (t.getD z nd0) = false := by unfold openS; rw [decide_eq_false (by omega)]; rfl
          rw [this]; rfl
        have hv : validS (t.getD z nd0).data = true := by
          rcases right_node hR (by omega) hz2 with h | h
          · omega
          · exact h.2
        refine Bd_call (CW_fr (rfirst_ok s hnz.data.1 hsz hv)) ?_
        rintro _ s2 ⟨rfl, hf2⟩
        have hf2 := hf.trans hf2
        have hN := cont _ hgz.symm
        cases ho : firstS (t.getD z nd0).data with
        | some w =>
          rw [ho] at hN
          repeat' (first | ((first | apply RG_step | apply DG_step | apply DG_read); focus (intro hgd; have hgd2 := hgd; (try simp only [sB] at hgd); (try simp only [sP] at hgd2); simp (maxSteps := 1000000) (disch := (first | omega | assumption | exact Fr.refl _)) only [hgd, sR, reduceIte, Nat.reduceEqDiff, Int.reduceLT, Int.reduceLE, Int.reduceEq, Int.reduceNeg, reduceCtorEq, Nat.reduceAdd, Int.reduceToNat, wayV, opExtract, Option.getD_some, Option.isSome_some]; exact StepIs_refl)) | ((first | refine Br_intro ?_ ?_ | refine BrB_intro ?_ ?_) <;> intro hbr hbe <;> simp (maxSteps := 1000000) (disch := (first | omega | assumption | exact Fr.refl _)) only [hbe, sR, reduceIte, Nat.reduceEqDiff, Int.reduceLT, Int.reduceLE, Int.reduceEq, Int.reduceNeg, reduceCtorEq, Nat.reduceAdd, Int.reduceToNat, wayV, opExtract, Option.getD_some, Option.isSome_some] <;> clear hbe) | simp (maxSteps := 1000000) (disch := (first | omega | assumption | exact Fr.refl _)) only [sR, reduceIte, Nat.reduceEqDiff, Int.reduceLT, Int.reduceLE, Int.reduceEq, Int.reduceNeg, reduceCtorEq, Nat.reduceAdd, Int.reduceToNat, wayV, opExtract, Option.getD_some, Option.isSome_some])
          rw [hN]; exact ⟨rfl, hf2⟩
        | none =>
          rw [ho] at hN
          repeat' (first | ((first | apply RG_step | apply DG_step | apply DG_read); focus (intro hgd; have hgd2 := hgd; (try simp only [sB] at hgd); (try simp only [sP] at hgd2); simp (maxSteps := 1000000) (disch := (first | omega | assumption | exact Fr.refl _)) only [hgd, sR, reduceIte, Nat.reduceEqDiff, Int.reduceLT, Int.reduceLE, Int.reduceEq, Int.reduceNeg, reduceCtorEq, Nat.reduceAdd, Int.reduceToNat, wayV, opExtract, v6, w_add1, Option.getD_none, Option.isSome_none]; exact StepIs_refl)) | ((first | refine Br_intro ?_ ?_ | refine BrB_intro ?_ ?_) <;> intro hbr hbe <;> simp (maxSteps := 1000000) (disch := (first | omega | assumption | exact Fr.refl _)) only [hbe, sR, reduceIte, Nat.reduceEqDiff, Int.reduceLT, Int.reduceLE, Int.reduceEq, Int.reduceNeg, reduceCtorEq, Nat.reduceAdd, Int.reduceToNat, wayV, opExtract, v6, w_add1, Option.getD_none, Option.isSome_none] <;> clear hbe) | simp (maxSteps := 1000000) (disch := (first | omega | assumption | exact Fr.refl _)) only [sR, reduceIte, Nat.reduceEqDiff, Int.reduceLT, Int.reduceLE, Int.reduceEq, Int.reduceNeg, reduceCtorEq, Nat.reduceAdd, Int.reduceToNat, wayV, opExtract, v6, w_add1, Option.getD_none, Option.isSome_none])
          exact ⟨n - 1, by omega, k + 1, by omega, hf2, by simp only [sV, Nat.reduceEqDiff, reduceIte, Nat.reduceAdd, v0], by simp only [sV, Nat.reduceEqDiff, reduceIte, Nat.reduceAdd, v1], by simp only [sV, Nat.reduceEqDiff, reduceIte, Nat.reduceAdd], hN⟩
      · have hk1 : (t.getD z nd0).kind = 1 ∧ (t.getD z nd0).data = [] := by
          rcases right_node hR (by omega) hz2 with h | h
          · exact h
          · omega
        have hgz : g z = if openS (t.getD z nd0) = true then scanF t f z else none := by
          rw [hgk, hk1.2, firstS_nil]
          generalize (if openS (t.getD z nd0) = true then scanF t f z else none) = o
          cases o <;> rfl
        (refine RG_split ?_ ?_ <;> intro hs <;> have hs2 := hs <;> (try simp only [sB] at hs) <;> (try simp only [sP] at hs2))
        · repeat' (first | ((first | apply RG_step | apply DG_step | apply DG_read); focus (intro hgd; have hgd2 := hgd; (try simp only [sB] at hgd); (try simp only [sP] at hgd2); simp (maxSteps := 1000000) (disch := (first | omega | assumption | exact Fr.refl _)) only [hgd, sR, reduceIte, Nat.reduceEqDiff, Int.reduceLT, Int.reduceLE, Int.reduceEq, Int.reduceNeg, reduceCtorEq, Nat.reduceAdd, Int.reduceToNat, hs, v0, v1, v6]; exact StepIs_refl)) | ((first | refine Br_intro ?_ ?_ | refine BrB_intro ?_ ?_) <;> intro hbr hbe <;> simp (maxSteps := 1000000) (disch := (first | omega | assumption | exact Fr.refl _)) only [hbe, sR, reduceIte, Nat.reduceEqDiff, Int.reduceLT, Int.reduceLE, Int.reduceEq, Int.reduceNeg, reduceCtorEq, Nat.reduceAdd, Int.reduceToNat, hs, v0, v1, v6] <;> clear hbe) | simp (maxSteps := 1000000) (disch := (first | omega | assumption | exact Fr.refl _)) only [sR, reduceIte, Nat.reduceEqDiff, Int.reduceLT, Int.reduceLE, Int.reduceEq, Int.reduceNeg, reduceCtorEq, Nat.reduceAdd, Int.reduceToNat, hs, v0, v1, v6])
          refine Bd_call (rState_ok (ht.fr hf) hwf hsh hz2) ?_
          rintro _ s2 ⟨rfl, hf2⟩
          have hf2 := hf.trans hf2
          repeat' (first | ((first | apply RG_step | apply DG_step | apply DG_read); focus (intro hgd; have hgd2 := hgd; (try simp only [sB] at hgd); (try simp only [sP] at hgd2); simp (maxSteps := 1000000) (disch := (first | omega | assumption | exact Fr.refl _)) only [hgd, sR, reduceIte, Nat.reduceEqDiff, Int.reduceLT, Int.reduceLE, Int.reduceEq, Int.reduceNeg, reduceCtorEq, Nat.reduceAdd, Int.reduceToNat, hs, v0, v1, v6, w_add1]; exact StepIs_refl)) | ((first | refine Br_intro ?_ ?_ | refine BrB_intro ?_ ?_) <;> intro hbr hbe <;> simp (maxSteps := 1000000) (disch := (first | omega | assumption | exact Fr.refl _)) only [hbe, sR, reduceIte, Nat.reduceEqDiff, Int.reduceLT, Int.reduceLE, Int.reduceEq, Int.reduceNeg, reduceCtorEq, Nat.reduceAdd, Int.reduceToNat, hs, v0, v1, v6, w_add1] <;> clear hbe) | simp (maxSteps := 1000000) (disch := (first | omega | assumption | exact Fr.refl _)) only [sR, reduceIte, Nat.reduceEqDiff, Int.reduceLT, Int.reduceLE, Int.reduceEq, Int.reduceNeg, reduceCtorEq, Nat.reduceAdd, Int.reduceToNat, hs, v0, v1, v6, w_add1])
          · have hop : openS (t.getD z nd0) = true := by unfold openS; rw [decide_eq_true hk1.1, decide_eq_true hs2, decide_eq_true (by omega)]; rfl
            rw [hop, if_pos rfl] at hgz
            refine Bd_call (rScan_f ht hwf hsh hR f z hz2 (by omega) s2 hf2) ?_
            rintro _ s3 ⟨rfl, hf3⟩
            have hN := cont _ hgz.symm
            cases ho : scanF t f z with
            | some w =>
              rw [ho] at hN
              repeat' (first | ((first | apply RG_step | apply DG_step | apply DG_read); focus (intro hgd; have hgd2 := hgd; (try simp only [sB] at hgd); (try simp only [sP] at hgd2); simp (maxSteps := 1000000) (disch := (first | omega | assumption | exact Fr.refl _)) only [hgd, sR, reduceIte, Nat.reduceEqDiff, Int.reduceLT, Int.reduceLE, Int.reduceEq, Int.reduceNeg, reduceCtorEq, Nat.reduceAdd, Int.reduceToNat, wayV, opExtract, Option.getD_some, Option.isSome_some]; exact StepIs_refl)) | ((first | refine Br_intro ?_ ?_ | refine BrB_intro ?_ ?_) <;> intro hbr hbe <;> simp (maxSteps := 1000000) (disch := (first | omega | assumption | exact Fr.refl _)) only [hbe, sR, reduceIte, Nat.reduceEqDiff, Int.reduceLT, Int.reduceLE, Int.reduceEq, Int.reduceNeg, reduceCtorEq, Nat.reduceAdd, Int.reduceToNat, wayV, opExtract, Option.getD_some, Option.isSome_some] <;> clear hbe) | simp (maxSteps := 1000000) (disch := (first | omega | assumption | exact Fr.refl _)) only [sR, reduceIte, Nat.reduceEqDiff, Int.reduceLT, Int.reduceLE, Int.reduceEq, Int.reduceNeg, reduceCtorEq, Nat.reduceAdd, Int.reduceToNat, wayV, opExtract, Option.getD_some, Option.isSome_some])
              rw [hN]; exact ⟨rfl, hf3⟩
            | none =>
              rw [ho] at hN
              repeat' (first | ((first | apply RG_step | apply DG_step | apply DG_read); focus (intro hgd; have hgd2 := hgd; (try simp only [sB] at hgd); (try simp only [sP] at hgd2); simp (maxSteps := 1000000) (disch := (first | omega | assumption | exact Fr.refl _)) only [hgd, sR, reduceIte, Nat.reduceEqDiff, Int.reduceLT, Int.reduceLE, Int.reduceEq, Int.reduceNeg, reduceCtorEq, Nat.reduceAdd, Int.reduceToNat, wayV, opExtract, v6, w_add1, Option.getD_none, Option.isSome_none]; exact StepIs_refl)) | ((first | refine Br_intro ?_ ?_ | refine BrB_intro ?_ ?_) <;> intro hbr hbe <;> simp (maxSteps := 1000000) (disch := (first | omega | assumption | exact Fr.refl _)) only [hbe, sR, reduceIte, Nat.reduceEqDiff, Int.reduceLT, Int.reduceLE, Int.reduceEq, Int.reduceNeg, reduceCtorEq, Nat.reduceAdd, Int.reduceToNat, wayV, opExtract, v6, w_add1, Option.getD_none, Option.isSome_none] <;> clear hbe) | simp (maxSteps := 1000000) (disch := (first | omega | assumption | exact Fr.refl _)) only [sR, reduceIte, Nat.reduceEqDiff, Int.reduceLT, Int.reduceLE, Int.reduceEq, Int.reduceNeg, reduceCtorEq, Nat.reduceAdd, Int.reduceToNat, wayV, opExtract, v6, w_add1, Option.getD_none, Option.isSome_none])
              exact ⟨n - 1, by omega, k + 1, by omega, hf3, by simp only [sV, Nat.reduceEqDiff, reduceIte, Nat.reduceAdd, v0], by simp only [sV, Nat.reduceEqDiff, reduceIte, Nat.reduceAdd, v1], by simp only [sV, Nat.reduceEqDiff, reduceIte, Nat.reduceAdd], hN⟩
          · have hop : openS (t.getD z nd0) = false := by unfold openS; rw [decide_eq_false (p := stateS _ = 0) (by omega), Bool.and_false, Bool.and_false]
            rw [hop, if_neg (by decide)] at hgz
            have hN := cont _ hgz.symm
            exact ⟨n - 1, by omega, k + 1, by omega, hf2, by simp only [sV, Nat.reduceEqDiff, reduceIte, Nat.reduceAdd, v0], by simp only [sV, Nat.reduceEqDiff, reduceIte, Nat.reduceAdd, v1], by simp only [sV, Nat.reduceEqDiff, reduceIte, Nat.reduceAdd], hN⟩
        · have hop : openS (t.getD z nd0) = false := by unfold openS; rw [decide_eq_false (p := _ ≠ [98, 100, 105]) (fun h => h hs2), Bool.false_and, Bool.and_false]
          rw [hop, if_neg (by decide)] at hgz
          have hN := cont _ hgz.symm
          repeat' (first | ((first | apply RG_step | apply DG_step | apply DG_read); focus (intro hgd; have hgd2 := hgd; (try simp only [sB] at hgd); (try simp only [sP] at hgd2); simp (maxSteps := 1000000) (disch := (first | omega | assumption | exact Fr.refl _)) only [hgd, sR, reduceIte, Nat.reduceEqDiff, Int.reduceLT, Int.reduceLE, Int.reduceEq, Int.reduceNeg, reduceCtorEq, Nat.reduceAdd, Int.reduceToNat, hs, v0, v1, v6, w_add1]; exact StepIs_refl)) | ((first | refine Br_intro ?_ ?_ | refine BrB_intro ?_ ?_) <;> intro hbr hbe <;> simp (maxSteps := 1000000) (disch := (first | omega | assumption | exact Fr.refl _)) only [hbe, sR, reduceIte, Nat.reduceEqDiff, Int.reduceLT, Int.reduceLE, Int.reduceEq, Int.reduceNeg, reduceCtorEq, Nat.reduceAdd, Int.reduceToNat, hs, v0, v1, v6, w_add1] <;> clear hbe) | simp (maxSteps := 1000000) (disch := (first | omega | assumption | exact Fr.refl _)) only [sR, reduceIte, Nat.reduceEqDiff, Int.reduceLT, Int.reduceLE, Int.reduceEq, Int.reduceNeg, reduceCtorEq, Nat.reduceAdd, Int.reduceToNat, hs, v0, v1, v6, w_add1])
          exact ⟨n - 1, by omega, k + 1, by omega, hf, by simp only [sV, Nat.reduceEqDiff, reduceIte, Nat.reduceAdd, v0], by simp only [sV, Nat.reduceEqDiff, reduceIte, Nat.reduceAdd, v1], by simp only [sV, Nat.reduceEqDiff, reduceIte, Nat.reduceAdd], hN⟩
      · omega
    · repeat' (first | ((first | apply RG_step | apply DG_step | apply DG_read); focus (intro hgd; have hgd2 := hgd; (try simp only [sB] at hgd); (try simp only [sP] at hgd2); simp (maxSteps := 1000000) (disch := (first | omega | assumption | exact Fr.refl _)) only [hgd, sR, reduceIte, Nat.reduceEqDiff, Int.reduceLT, Int.reduceLE, Int.reduceEq, Int.reduceNeg, reduceCtorEq, Nat.reduceAdd, Int.reduceToNat, L19_1, v0, v1, v6, ht.ixz, ht.a5, ht.n5, ht.kl]; exact StepIs_refl)) | ((first | refine Br_intro ?_ ?_ | refine BrB_intro ?_ ?_) <;> intro hbr hbe <;> simp (maxSteps := 1000000) (disch := (first | omega | assumption | exact Fr.refl _)) only [hbe, sR, reduceIte, Nat.reduceEqDiff, Int.reduceLT, Int.reduceLE, Int.reduceEq, Int.reduceNeg, reduceCtorEq, Nat.reduceAdd, Int.reduceToNat, L19_1, v0, v1, v6, ht.ixz, ht.a5, ht.n5, ht.kl] <;> clear hbe) | simp (maxSteps := 1000000) (disch := (first | omega | assumption | exact Fr.refl _)) only [sR, reduceIte, Nat.reduceEqDiff, Int.reduceLT, Int.reduceLE, Int.reduceEq, Int.reduceNeg, reduceCtorEq, Nat.reduceAdd, Int.reduceToNat, L19_1, v0, v1, v6, ht.ixz, ht.a5, ht.n5, ht.kl])
      · omega
      · rw [List.drop_of_length_le (by omega)] at hN
        rw [hN]; exact ⟨rfl, hf⟩
end Go.Ab.Dirs
end

set_option maxRecDepth 100000
noncomputable section
namespace Go.Ab.Dirs
open Go Go.Ab

section
variable {σ : St} {t : List ND} {tv : AVal}
theorem rScan_ok (ht : TreeI σ tv t) (hwf : ∀ n ∈ t, NWF n) (hsh : Short t) (hR : rightS t = true) {i : Nat} (hi : i < t.length) {s : St} (hf : Fr σ s) : CW TS false 19 [tv, .int .i64 (i : Int)] s fun v s' => v = wayV (scanS t i) ∧ Fr σ s' :=
  rScan_f ht hwf hsh hR t.length i hi (by omega) s hf
theorem endsS_eq (k : Nat) : endsS k = (decide ((1 : Int) ≤ k) && decide ((k : Int) ≤ 4) || decide ((k : Int) = 8)) := by
  unfold endsS; rw [Bool.eq_iff_iff]; simp; omega

set_option maxHeartbeats 16000000 in
theorem rSheet_ok (ht : TreeI σ tv t) (hwf : ∀ n ∈ t, NWF n) (hsh : Short t) (hR : rightS t = true) {i : Nat} (hi : i < t.length) {s0 : St} (hf0 : Fr σ s0) : CW TS false 20 [tv, .int .i64 (i : Int)] s0 fun v s' => v = sheetV (sheetD t i) (sheetB t i) ∧ Fr σ s' := by
  have hle := stateS_le (t.getD i nd0).attrs
  have hsd : sheetD t i = if stateS (t.getD i nd0).attrs = 2 then some 1 else if stateS (t.getD i nd0).attrs = 1 then some 0 else if stateS (t.getD i nd0).attrs = 3 ∨ (t.getD i nd0).name = [98, 100, 105] then some ((scanS t i).getD 0) else none := rfl
  have hsb : sheetB t i = if (t.getD i nd0).name = [98, 100, 111] then 4 else if (sheetD t i).isSome = true ∨ endsS (kindS (t.getD i nd0).name) = true then 2 else 0 := rfl
  rw [hsb]
  refine CW_of fn20 rfl ?_
  repeat' (first | ((first | apply RG_step | apply DG_step | apply DG_read); focus (intro hgd; have hgd2 := hgd; (try simp only [sB] at hgd); (try simp only [sP] at hgd2); simp (maxSteps := 1000000) (disch := (first | omega | assumption | exact Fr.refl _)) only [hgd, sR, reduceIte, Nat.reduceEqDiff, Int.reduceLT, Int.reduceLE, Int.reduceEq, Int.reduceNeg, reduceCtorEq, Nat.reduceAdd, Int.reduceToNat, c20]; exact StepIs_refl)) | ((first | refine Br_intro ?_ ?_ | refine BrB_intro ?_ ?_) <;> intro hbr hbe <;> simp (maxSteps := 1000000) (disch := (first | omega | assumption | exact Fr.refl _)) only [hbe, sR, reduceIte, Nat.reduceEqDiff, Int.reduceLT, Int.reduceLE, Int.reduceEq, Int.reduceNeg, reduceCtorEq, Nat.reduceAdd, Int.reduceToNat, c20] <;> clear hbe) | simp (maxSteps := 1000000) (disch := (first | omega | assumption | exact Fr.refl _)) only [sR, reduceIte, Nat.reduceEqDiff, Int.reduceLT, Int.reduceLE, Int.reduceEq, Int.reduceNeg, reduceCtorEq, Nat.reduceAdd, Int.reduceToNat, c20])
  refine Bd_call (rState_ok (ht.fr hf0) hwf hsh hi) ?_
  rintro _ s2 ⟨rfl, hf2⟩
  have hf2 := hf0.trans hf2
  have fin : ∀ (w : Nat) (has : Bool) (b : Nat) (s3 : St), Fr σ s3 → (sheetD t i).isSome = has → (sheetD t i).getD 0 = w → (if (t.getD i nd0).name = [98, 100, 111] then 4 else if has = true ∨ endsS (kindS (t.getD i nd0).name) = true then 2 else 0) = b →
      AVal.tuple [.int .u8 (w : Int), .bool has, .int .u8 (b : Int)] = sheetV (sheetD t i) (if (t.getD i nd0).name = [98, 100, 111] then 4 else if (sheetD t i).isSome = true ∨ endsS (kindS (t.getD i nd0).name) = true then 2 else 0) ∧ Fr σ s3 := by
    rintro _ _ _ s3 hf3 rfl rfl rfl; exact ⟨rfl, hf3⟩
  have hE := endsS_eq (kindS (t.getD i nd0).name)
  generalize hst : stateS (t.getD i nd0).attrs = st at *
  obtain rfl | rfl | rfl | rfl : st = 0 ∨ st = 1 ∨ st = 2 ∨ st = 3 := by omega
  all_goals cases hbb : decide ((t.getD i nd0).name = [98, 100, 105])
  all_goals repeat' (first | ((first | apply RG_step | apply DG_step | apply DG_read); focus (intro hgd; have hgd2 := hgd; (try simp only [sB] at hgd); (try simp only [sP] at hgd2); simp (maxSteps := 1000000) (disch := (first | omega | assumption | exact Fr.refl _)) only [hgd, sR, reduceIte, Nat.reduceEqDiff, Int.reduceLT, Int.reduceLE, Int.reduceEq, Int.reduceNeg, reduceCtorEq, Nat.reduceAdd, Int.reduceToNat, hbb, ht.ixz, ht.a1, ht.n1, RefKind_ok, Int.natCast_zero, Int.natCast_one, Int.cast_ofNat_Int]; exact StepIs_refl)) | ((first | refine Br_intro ?_ ?_ | refine BrB_intro ?_ ?_) <;> intro hbr hbe <;> simp (maxSteps := 1000000) (disch := (first | omega | assumption | exact Fr.refl _)) only [hbe, sR, reduceIte, Nat.reduceEqDiff, Int.reduceLT, Int.reduceLE, Int.reduceEq, Int.reduceNeg, reduceCtorEq, Nat.reduceAdd, Int.reduceToNat, hbb, ht.ixz, ht.a1, ht.n1, RefKind_ok, Int.natCast_zero, Int.natCast_one, Int.cast_ofNat_Int] <;> clear hbe) | simp (maxSteps := 1000000) (disch := (first | omega | assumption | exact Fr.refl _)) only [sR, reduceIte, Nat.reduceEqDiff, Int.reduceLT, Int.reduceLE, Int.reduceEq, Int.reduceNeg, reduceCtorEq, Nat.reduceAdd, Int.reduceToNat, hbb, ht.ixz, ht.a1, ht.n1, RefKind_ok, Int.natCast_zero, Int.natCast_one, Int.cast_ofNat_Int])
  all_goals try (refine Bd_call (rScan_ok ht hwf hsh hR hi hf2) ?_; rintro _ s3 ⟨rfl, hf3⟩; repeat' (first | ((first | apply RG_step | apply DG_step | apply DG_read); focus (intro hgd; have hgd2 := hgd; (try simp only [sB] at hgd); (try simp only [sP] at hgd2); simp (maxSteps := 1000000) (disch := (first | omega | assumption | exact Fr.refl _)) only [hgd, sR, reduceIte, Nat.reduceEqDiff, Int.reduceLT, Int.reduceLE, Int.reduceEq, Int.reduceNeg, reduceCtorEq, Nat.reduceAdd, Int.reduceToNat, wayV, opExtract]; exact StepIs_refl)) | ((first | refine Br_intro ?_ ?_ | refine BrB_intro ?_ ?_) <;> intro hbr hbe <;> simp (maxSteps := 1000000) (disch := (first | omega | assumption | exact Fr.refl _)) only [hbe, sR, reduceIte, Nat.reduceEqDiff, Int.reduceLT, Int.reduceLE, Int.reduceEq, Int.reduceNeg, reduceCtorEq, Nat.reduceAdd, Int.reduceToNat, wayV, opExtract] <;> clear hbe) | simp (maxSteps := 1000000) (disch := (first | omega | assumption | exact Fr.refl _)) only [sR, reduceIte, Nat.reduceEqDiff, Int.reduceLT, Int.reduceLE, Int.reduceEq, Int.reduceNeg, reduceCtorEq, Nat.reduceAdd, Int.reduceToNat, wayV, opExtract]))
  all_goals refine ⟨?_, by assumption⟩
  all_goals (clear hsb fin hwf hsh hR hf0; simp only [decide_eq_true_eq, decide_eq_false_iff_not] at hbb; simp_all [sheetV] <;> (rw [if_neg (by omega)]; rfl))
end
end Go.Ab.Dirs
end
