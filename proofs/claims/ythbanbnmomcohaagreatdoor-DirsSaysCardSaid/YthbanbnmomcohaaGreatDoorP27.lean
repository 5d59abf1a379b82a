/- dirs.All. -/
import Derived.Test.YthbanbnmomcohaaGreatDoorP26
set_option maxRecDepth 10000
noncomputable section
namespace Go.Ab.Dirs
open Go Go.Ab

/-- The last ones of a slice. -/
theorem SlI.drop {σ : St} {s n : Nat} {v : AVal} {cs : List AVal} (h : SlI σ s v n cs) {k : Nat} (hk : k ≤ n) : ∃ v', slS s v (some (.int .i64 (k : Int))) none none = some v' ∧ SlI σ s v' (n - k) (cs.drop (k * s)) := by
  have hl := h.cs_len
  have hks : k * s ≤ n * s := Nat.mul_le_mul_right s hk
  obtain ⟨h1, h2⟩ := h
  have hb : ∀ m : Nat, k ≤ m → boundsL m m (some (.int .i64 (k : Int))) none none = some (k, m) := by
    intro m hm
    simp only [boundsL, toNo, toN, Int.toNat_natCast, Option.isSome_none, Bool.false_eq_true, if_false]
    rw [if_pos ⟨by omega, by omega⟩]
  have hsub : (n - k) * s = n * s - k * s := Nat.sub_mul _ _ _
  unfold lowV at h1
  split at h1
  · simp only [cellsIn] at h2; cases h2
    have : k = 0 := by omega
    subst this
    exact ⟨.nils, by simp only [slS, hb 0 (by omega)], trivial, by simp [cellsIn]⟩
  · rename_i b i m s'
    simp only [cellsIn] at h2
    split at h2
    · rename_i e; subst e
      split at h2
      · rename_i f e l hg
        split at h2
        · rename_i l' hs'
          cases h2
          obtain ⟨ha, hb'⟩ := sub_eq.1 hs'
          refine ⟨.slice b (i + k * s) (n - k) s, ?_, h1, ?_⟩
          · simp only [slS, hb n hk]; simp
          · simp only [cellsIn, hg, if_true]
            rw [sub_eq.2 ⟨by omega, rfl⟩]
            subst hb'
            simp only [List.drop_take, List.drop_drop, hsub]
        · simp at h2
      · simp at h2
    · simp at h2
  · rename_i m l
    simp only [cellsIn] at h2
    split at h2
    · rename_i l' ht
      cases h2
      obtain ⟨ha, hb'⟩ := takeX_eq.1 ht
      by_cases h0 : k = n
      · subst h0
        refine ⟨.rslice 0 [], by simp only [slS, hb k hk]; simp, trivial, ?_⟩
        simp only [cellsIn, Nat.sub_self, Nat.zero_mul, takeX_zero]
        rw [List.drop_of_length_le (by omega)]
      · refine ⟨.rslice (n - k) (l.drop (k * s)), ?_, trivial, ?_⟩
        · simp only [slS, hb n hk]
          rw [if_neg h0, dropX_eq.2 ⟨by omega, rfl⟩]
        · simp only [cellsIn]
          rw [takeX_eq.2 ⟨by rw [List.length_drop]; omega, rfl⟩]
          subst hb'
          simp only [List.drop_take, hsub]
    · simp at h2
  · exact absurd h1 id

theorem TreeI.tail {σ : St} {v : AVal} {t : List ND} (h : TreeI σ v t) (hp : 0 < t.length) : ∃ v', slS 6 v (some (.int .i64 1)) none none = some v' ∧ TreeI σ v' (t.drop 1) := by
  obtain ⟨cs, h1, h2⟩ := h
  obtain ⟨v', g1, g2⟩ := SlI.drop h1 (k := 1) (by omega)
  refine ⟨v', g1, cs.drop (1 * 6), ?_, ?_⟩
  · rw [List.length_drop]; exact g2
  · cases h2 with
    | nil => simp at hp
    | cons hc ht =>
      rename_i n t av kv cs ds
      have : cs.length = 6 := by rw [hc.1]; rfl
      have e : (cs ++ ds).drop (1 * 6) = ds := by rw [Nat.one_mul, ← this]; exact List.drop_left
      show NodesC σ t _
      rw [e]
      exact ht

/-- An own row of bytes. -/
def OwnB (σ : St) (b : Nat) (l : List Nat) : Prop := b < σ.next ∧ ∃ f cs, σ.get b = some (.cells f 5 cs) ∧ l.length ≤ cs.length ∧ cs.take l.length = l.map fun x : Nat => AVal.int .u8 (x : Int)
theorem OwnB.fr {σ σ' : St} {b : Nat} {l : List Nat} (h : OwnB σ b l) (hf : Fr σ σ') : OwnB σ' b l := by
  obtain ⟨h1, f, cs, h2, h3⟩ := h
  exact ⟨Nat.lt_of_lt_of_le h1 hf.next, f, cs, by rw [hf.get _ h1]; exact h2, h3⟩
theorem OwnB.sl {σ : St} {b : Nat} {l : List Nat} (h : OwnB σ b l) : SlI σ 1 (.slice b 0 l.length 1) l.length (l.map fun x : Nat => AVal.int .u8 (x : Int)) := by
  obtain ⟨h1, f, cs, h2, h3, h4⟩ := h
  refine ⟨h1, ?_⟩
  simp only [cellsIn, h2, if_true]
  rw [sub_eq.2 ⟨by omega, rfl⟩]
  simp only [List.drop_zero, Nat.mul_one, h4]
theorem OwnB.get {σ : St} {b : Nat} {l : List Nat} (h : OwnB σ b l) {i : Nat} (hi : i < l.length) {k : IntKind} : ixS 1 (.slice b 0 l.length 1) (.int k (i : Int)) = some (ixp 1 (.slice b 0 l.length 1) i) ∧ ldA σ none (ixp 1 (.slice b 0 l.length 1) i) = some (.int .u8 (l[i] : Int)) := by
  obtain ⟨h1, h2⟩ := h.sl.ix hi (k := k)
  refine ⟨h1, ?_⟩
  rw [Nat.mul_one, List.drop_eq_getElem_cons (by simpa using hi)] at h2
  have := h2.ld
  simpa using this
theorem OwnB.store {σ σ0 : St} {b : Nat} {l : List Nat} (h : OwnB σ b l) {i : Nat} (hi : i < l.length) (w : Nat) (h0 : Fr σ0 σ) (hb : σ0.next ≤ b) :
    ∃ σ', stS σ 1 (ixp 1 (.slice b 0 l.length 1) i) (.int .u8 (w : Int)) = some σ' ∧ OwnB σ' b (l.set i w) ∧ Fr σ0 σ' ∧ σ'.next = σ.next ∧ (∀ c, c ≠ b → σ'.get c = σ.get c) := by
  obtain ⟨hlt, f, cs, hg, hl, htk⟩ := h
  have hp := putX_set cs i (.int .u8 (w : Int)) (by omega)
  refine ⟨σ.put b (.cells f 5 (cs.set i (.int .u8 (w : Int)))), ?_, ⟨hlt, f, _, St.get_put_same _ _ _, ?_, ?_⟩, h0.put hb _, rfl, fun c hc => St.get_put_other _ _ hc⟩
  · simp only [ixp, stS_ptr, hg, cells_int, Nat.zero_add, Nat.mul_one, lenL_eq, List.length_cons, List.length_nil, allOne, one_int, Bool.and_true, and_self, if_true, hp]
  · simp only [List.length_set]; exact hl
  · simp only [List.length_set]
    rw [List.take_set, htk, List.map_set]

/-- A node's parent stands ahead of it. -/
theorem rightG_up (t : List ND) : ∀ (m i : Nat) (path cnt cnt' : List Nat), i + m = t.length → InvF t i path cnt → rightG t m i path cnt = some cnt' →
    ∀ j, i ≤ j → 0 < j → j < t.length → ∃ u : Nat, (t.getD j dN).up = (u : Int) ∧ u < j
  | 0, i, path, cnt, cnt', hm, hv, hg => fun j h1 h2 h3 => by omega
  | m + 1, i, path, cnt, cnt', hm, hv, hg => by
    rw [rightG] at hg
    cases hs : stepR t i path cnt with
    | none => rw [hs] at hg; simp at hg
    | some pc =>
      obtain ⟨p, c⟩ := pc
      rw [hs] at hg
      obtain ⟨hv', q, hq, hq2⟩ := hv.step (by omega) hs
      intro j h1 h2 h3
      by_cases e : j = i
      · subst e
        obtain ⟨e1, e2⟩ := hq2 (by omega)
        subst e1
        obtain ⟨l, u, w1, w2⟩ := popS_last _ _ e2
        refine ⟨u, w2.symm, ?_⟩
        obtain ⟨k, hk⟩ := popS_take (t.getD j dN).up path
        have : u ∈ path := by
          have : u ∈ popS (t.getD j dN).up path := by rw [w1]; simp
          rw [hk] at this; exact List.mem_of_mem_take this
        rcases hv.pos u this with h | h <;> omega
      · exact rightG_up t m (i + 1) p c cnt' (by omega) hv' hg j (by omega) h2 h3
theorem right_up {t : List ND} (h : rightS t = true) {j : Nat} (hj : 0 < j) (hjt : j < t.length) : ∃ u : Nat, t[j].up = (u : Int) ∧ u < j := by
  unfold rightS at h
  rw [Bool.and_eq_true] at h
  obtain ⟨h1, h2⟩ := h
  cases hg : rightG t t.length 0 [0] (List.replicate t.length 0) with
  | none => rw [hg] at h2; simp at h2
  | some cnt =>
    have hv : InvF t 0 [0] (List.replicate t.length 0) := by
      refine ⟨fun p hp => by simp at hp; exact .inr hp, by simp, fun u hu j hj => ?_⟩
      have : (List.replicate t.length 0).getD u 0 = 0 := by rw [getD_at (by simpa using hu)]; simp
      omega
    have := rightG_up t t.length 0 [0] _ cnt (by omega) hv hg j (Nat.zero_le _) hj hjt
    rwa [getD_at hjt] at this

/-- The ways of all nodes, one after the other. -/
def allStep (t : List ND) (i : Nat) (out : List Nat) : List Nat :=
  if (t.getD i dN).kind = 1 then
    match sheetD t i with
    | some w => (out.set i (out.getD (t.getD i dN).up.toNat 0)).set i w
    | none => out.set i (out.getD (t.getD i dN).up.toNat 0)
  else out.set i (out.getD (t.getD i dN).up.toNat 0)
theorem allStep_len {t : List ND} {i : Nat} {out : List Nat} : (allStep t i out).length = out.length := by
  unfold allStep; repeat' split
  all_goals simp
def allG (t : List ND) : Nat → Nat → List Nat → List Nat
  | 0, _, out => out
  | m + 1, i, out => allG t m (i + 1) (allStep t i out)
def allS (t : List ND) : List Nat := allG t (t.length - 1) 1 (List.replicate t.length 0)

set_option maxHeartbeats 4000000 in
theorem all_loop {σ0 : St} {t : List ND} {tv tv' : AVal} (ht : TreeI σ0 tv t) (ht' : TreeI σ0 tv' (t.drop 1)) (hwf : ∀ n ∈ t, NWF n) (hR : rightS t = true) (bo : Nat) (hbo : σ0.next ≤ bo) : ∀ (m i : Nat) (out : List Nat) (e : Env) (σ : St) (r : Option (Out × Env × St)), i + m = t.length - 1 → out.length = t.length →
    Fr σ0 σ → OwnB σ bo out → Ew TS false (.loop L11_1) e σ = r →
    V e 0 = tv → V e 4 = .slice bo 0 out.length 1 → V e 17 = tv' → V e 18 = .int .i64 ((t.length - 1 : Nat) : Int) → V e 19 = .int .i64 (i : Int) →
    ∃ e' σ', Fr σ0 σ' ∧ r = some (.exit 0, e', σ') ∧ V e' 4 = .slice bo 0 out.length 1 ∧ OwnB σ' bo (allG t m (i + 1) out) ∧ (allG t m (i + 1) out).length = t.length
  | 0, i, out, e, σ, r, hi, ho, hf, hB, hr, h0, h4, h17, h18, h19 => by
    have hlt : ¬ ((i : Int) < ((t.length - 1 : Nat) : Int)) := by omega
    rw [Ew_loop] at hr
    simp only [L11_1, sC, reduceIte, stepOp, opArith, arith, sO, h18, h19, hlt] at hr
    exact ⟨_, _, hf, hr.symm, by simp only [V_U, Nat.reduceEqDiff, reduceIte, h4], hB, ho⟩
  | m + 1, i, out, e, σ, r, hi, ho, hf, hB, hr, h0, h4, h17, h18, h19 => by
    have hlt : ((i : Int) < ((t.length - 1 : Nat) : Int)) := by omega
    have hit : i + 1 < t.length := by omega
    obtain ⟨hk, -, -, hN⟩ := right_facts hR
    have hw : wrapI .i64 ((i : Int) + 1) = ((i + 1 : Nat) : Int) := by rw [wrap_i64 (by omega) (by omega)]; omega
    have hd : i < (t.drop 1).length := by rw [List.length_drop]; omega
    obtain ⟨av, kv, x1, x2⟩ := (ht'.fr hf).get hd
    have hel : (t.drop 1)[i] = t[i + 1] := by rw [List.getElem_drop]; congr 1; omega
    rw [hel] at x2
    have x1 := x1 .i64
    obtain ⟨u, hu, hui⟩ := right_up hR (j := i + 1) (by omega) hit
    have o1 := x2.attrs.one
    have o2 := x2.kids.one
    have hcp := Copy.of (f := true) (t := 36) (zs := [.int .u8 0, .str [], .nils, .str [], .int .i64 0, .nils]) x2
    have hf2 : Fr σ ((σ.new (.cells true 36 [.int .u8 0, .str [], .nils, .str [], .int .i64 0, .nils])).put σ.next (.cells true 36 [.int .u8 (t[i + 1].kind : Int), .str t[i + 1].name, av, .str t[i + 1].data, .int .i64 t[i + 1].up, kv])) := (Fr.new _ _).put (Nat.le_refl _) _
    have x2l := x2.ld
    generalize e2 : (σ.new (.cells true 36 [.int .u8 0, .str [], .nils, .str [], .int .i64 0, .nils])).put σ.next (.cells true 36 [.int .u8 (t[i + 1].kind : Int), .str t[i + 1].name, av, .str t[i + 1].data, .int .i64 t[i + 1].up, kv]) = σ2 at hcp hf2
    obtain ⟨⟨fc, ec, gc⟩, gclt, -, -⟩ := id hcp
    rw [hu] at gc
    have hB2 := hB.fr hf2
    have huo : u < out.length := by omega
    have hio : i + 1 < out.length := by omega
    obtain ⟨u1, u2⟩ := hB2.get huo (k := .i64)
    obtain ⟨w1, -⟩ := hB2.get hio (k := .i64)
    obtain ⟨σ3, s1, hB3, hf3, hn3, hk3⟩ := hB2.store hio out[u] (hf.trans hf2) hbo
    have hbne : σ.next ≠ bo := by have := hB.1; omega
    have gc3 : σ3.get σ.next = some (.cells fc ec [.int .u8 (t[i + 1].kind : Int), .str t[i + 1].name, av, .str t[i + 1].data, .int .i64 (u : Int), kv]) := by rw [hk3 _ hbne]; exact gc
    have hgi : t.getD (i + 1) dN = t[i + 1] := getD_at hit dN
    have hst : allStep t (i + 1) out = if t[i + 1].kind = 1 then (match sheetD t (i + 1) with | some w => (out.set (i + 1) out[u]).set (i + 1) w | none => out.set (i + 1) out[u]) else out.set (i + 1) out[u] := by
      unfold allStep
      rw [hgi, hu, Int.toNat_natCast, getD_at huo]
    have hlen : (out.set (i + 1) out[u]).length = out.length := List.length_set
    rw [allG, hst]
    rw [Ew_loop] at hr
    by_cases hkd : t[i + 1].kind = 1
    · rw [if_pos hkd]
      have hkd' := eq_true (show (t[i + 1].kind : Int) = 1 by omega)
      obtain ⟨σ4, hf4, hsh⟩ := sheet_ok (ht.fr hf3) hwf hk hit
      have hB4 := hB3.fr hf4
      cases hsd : sheetD t (i + 1) with
      | none =>
        rw [hsd] at hsh
        simp only [L11_1, B11_6, B11_1, B11_2, B11_3, B11_4, B11_5, sC, reduceIte, Nat.reduceEqDiff, stepOp, undefA, opMov, opArith, arith, sO, reduceCtorEq, Nat.reduceAdd, opAlloc, allOne, St.newK_eq, opStore_s, opLoad_s, opFieldAddr_s, opIaSl_s, fldA_ptr, ldA_ptr, stS_ptr, St.get_new_same, loadL_none, putX_all6, cells_agg, one_int, one_str, List.length_cons, List.length_nil, Nat.zero_add, dropX_zero, dropX_4, Bool.and_true, and_true, Bool.false_eq_true, h0, h4, h17, h18, h19, hlt, x1, x2l, o1, o2, e2, gc, u1, u2, w1, s1, gc3, hkd', hw, opCall, argsOf, hsh, opExtract, dropX_1, dropX_2, Option.isSome_none] at hr
        obtain ⟨e', σ', hf', g1, g2, g3, g4⟩ := all_loop ht ht' hwf hR bo hbo m (i + 1) (out.set (i + 1) out[u]) _ σ4 r (by omega) (by rw [hlen]; exact ho) (hf3.trans hf4) hB4 hr (by simp only [V_U, Nat.reduceEqDiff, reduceIte, h0]) (by simp only [V_U, Nat.reduceEqDiff, reduceIte, h4, hlen]) (by simp only [V_U, Nat.reduceEqDiff, reduceIte, h17]) (by simp only [V_U, Nat.reduceEqDiff, reduceIte, h18]) (by simp only [V_U, Nat.reduceEqDiff, reduceIte])
        rw [hlen] at g2
        exact ⟨e', σ', hf', g1, g2, g3, g4⟩
      | some w =>
        rw [hsd] at hsh
        have hio' : i + 1 < (out.set (i + 1) out[u]).length := by rw [hlen]; exact hio
        obtain ⟨v1, -⟩ := hB4.get hio' (k := .i64)
        obtain ⟨σ5, s5, hB5, hf5, hn5, hk5⟩ := hB4.store hio' w (hf3.trans hf4) hbo
        rw [hlen] at v1 s5
        simp only [L11_1, B11_6, B11_1, B11_2, B11_3, B11_4, B11_5, sC, reduceIte, Nat.reduceEqDiff, stepOp, undefA, opMov, opArith, arith, sO, reduceCtorEq, Nat.reduceAdd, opAlloc, allOne, St.newK_eq, opStore_s, opLoad_s, opFieldAddr_s, opIaSl_s, fldA_ptr, ldA_ptr, stS_ptr, St.get_new_same, loadL_none, putX_all6, cells_agg, one_int, one_str, List.length_cons, List.length_nil, Nat.zero_add, dropX_zero, dropX_4, Bool.and_true, and_true, Bool.false_eq_true, h0, h4, h17, h18, h19, hlt, x1, x2l, o1, o2, e2, gc, u1, u2, w1, s1, gc3, hkd', hw, opCall, argsOf, hsh, opExtract, dropX_1, dropX_2, Option.isSome_some, Option.getD_some, s5] at hr
        have hlen2 : ((out.set (i + 1) out[u]).set (i + 1) w).length = out.length := by rw [List.length_set, hlen]
        obtain ⟨e', σ', hf', g1, g2, g3, g4⟩ := all_loop ht ht' hwf hR bo hbo m (i + 1) ((out.set (i + 1) out[u]).set (i + 1) w) _ σ5 r (by omega) (by rw [hlen2]; exact ho) hf5 hB5 hr (by simp only [V_U, Nat.reduceEqDiff, reduceIte, h0]) (by simp only [V_U, Nat.reduceEqDiff, reduceIte, h4, hlen2]) (by simp only [V_U, Nat.reduceEqDiff, reduceIte, h17]) (by simp only [V_U, Nat.reduceEqDiff, reduceIte, h18]) (by simp only [V_U, Nat.reduceEqDiff, reduceIte])
        rw [hlen2] at g2
        exact ⟨e', σ', hf', g1, g2, g3, g4⟩
    · rw [if_neg hkd]
      have hkd' : ¬ (t[i + 1].kind : Int) = 1 := by omega
      simp only [L11_1, B11_6, B11_1, B11_2, B11_3, sC, reduceIte, Nat.reduceEqDiff, stepOp, undefA, opMov, opArith, arith, sO, Nat.reduceAdd, opAlloc, allOne, St.newK_eq, opStore_s, opLoad_s, opFieldAddr_s, opIaSl_s, fldA_ptr, ldA_ptr, stS_ptr, St.get_new_same, loadL_none, putX_all6, cells_agg, one_int, one_str, List.length_cons, List.length_nil, Nat.zero_add, dropX_zero, dropX_4, Bool.and_true, and_true, Bool.false_eq_true, h4, h17, h18, h19, hlt, x1, x2l, o1, o2, e2, gc, u1, u2, w1, s1, gc3, hkd', hw] at hr
      obtain ⟨e', σ', hf', g1, g2, g3, g4⟩ := all_loop ht ht' hwf hR bo hbo m (i + 1) (out.set (i + 1) out[u]) _ σ3 r (by omega) (by rw [hlen]; exact ho) hf3 hB3 hr (by simp only [V_U, Nat.reduceEqDiff, reduceIte, h0]) (by simp only [V_U, Nat.reduceEqDiff, reduceIte, h4, hlen]) (by simp only [V_U, Nat.reduceEqDiff, reduceIte, h17]) (by simp only [V_U, Nat.reduceEqDiff, reduceIte, h18]) (by simp only [V_U, Nat.reduceEqDiff, reduceIte])
      rw [hlen] at g2
      exact ⟨e', σ', hf', g1, g2, g3, g4⟩

theorem rep_b : ∀ n : Nat, rep [.int .u8 0] n = (List.replicate n 0).map fun x : Nat => AVal.int .u8 (x : Int)
  | 0 => rfl
  | n + 1 => by rw [rep, rep_b n]; rfl

theorem All_ok {σ : St} {t : List ND} {tv : AVal} (ht : TreeI σ tv t) (hwf : ∀ n ∈ t, NWF n) :
    ∃ σ', Fr σ σ' ∧ ((rightS t = false ∧ Cw TS false 11 [tv] σ = some (.tuple [.nils, .int .i64 53], σ')) ∨
      (rightS t = true ∧ ∃ b, σ.next ≤ b ∧ OwnB σ' b (allS t) ∧ (allS t).length = t.length ∧ Cw TS false 11 [tv] σ = some (.tuple [.slice b 0 t.length 1, .int .i64 0], σ'))) := by
  obtain ⟨σ1, hf1, hR⟩ := Right_ok ht hwf
  rw [Cw_of fn11 false _ σ rfl]
  cases hr : rightS t with
  | false =>
    rw [hr, if_neg (by decide)] at hR
    simp only [c11, B11_7, B11_8, B11_9, B11_10, B11_11, sC, reduceIte, Nat.reduceEqDiff, stepOp, opMov, opArith, arith, sO, Int.reduceEq, reduceCtorEq, sF, Nat.reduceAdd, opCall, argsOf, hR]
    exact ⟨_, hf1, .inl ⟨trivial, rfl⟩⟩
  | true =>
    rw [hr, if_pos rfl] at hR
    obtain ⟨hk, -, hpos, hN⟩ := right_facts hr
    have hl1 := (ht.fr hf1).len
    have hmk := mkS_nat (σ := σ1) (e := 5) (s := 1) (bytes := 1) (n := t.length) (z := [.int .u8 0]) (by omega) (by omega)
    have hf2 : Fr σ1 (σ1.new (.cells true 5 (rep [.int .u8 0] t.length))) := Fr.new _ _
    obtain ⟨tv', s1, ht'⟩ := TreeI.tail (ht.fr hf1) hpos
    have hl' := (ht'.fr hf2).len
    rw [List.length_drop] at hl'
    have hB : OwnB (σ1.new (.cells true 5 (rep [.int .u8 0] t.length))) σ1.next (List.replicate t.length 0) := by
      refine ⟨Nat.lt_succ_self _, true, _, St.get_new_same _ _, ?_, ?_⟩
      · rw [rep_b]; simp
      · rw [rep_b, List.take_of_length_le (by simp)]
    simp only [c11, B11_7, B11_8, B11_9, B11_10, B11_11, sC, reduceIte, Nat.reduceEqDiff, stepOp, opMov, opArith, arith, sO, reduceCtorEq, sF, Nat.reduceAdd, opCall, argsOf, hR, hl1, opMkSlice_s, hmk, Bool.false_eq_true, opSlSl_s, Option.map_none, Option.map_some, s1, hl']
    generalize hrr : Ew TS false (.loop L11_1) _ _ = rr
    have hrl : (List.replicate t.length 0).length = t.length := List.length_replicate
    obtain ⟨e', σ', hf', rfl, g2, g3, g4⟩ := all_loop (ht.fr hf1) ht' hwf hr σ1.next (Nat.le_refl _) (t.length - 1) 0 (List.replicate t.length 0) _ _ rr (by omega) hrl hf2 hB hrr (by simp only [V_U, Nat.reduceEqDiff, reduceIte]) (by simp only [V_U, Nat.reduceEqDiff, reduceIte, hrl]) (by simp only [V_U, Nat.reduceEqDiff, reduceIte]) (by simp only [V_U, Nat.reduceEqDiff, reduceIte]) (by simp only [V_U, Nat.reduceEqDiff, reduceIte]; rfl)
    rw [hrl] at g2
    refine ⟨σ', hf1.trans hf', .inr ⟨trivial, σ1.next, hf1.next, g3, g4, ?_⟩⟩
    simp only [sC, reduceIte, Nat.reduceEqDiff, sF, g2]
end Go.Ab.Dirs
end
