/- tree.Right: its parts. -/
import Derived.Test.YthbanbnmomcohaaGreatDoorP12
set_option maxRecDepth 10000
noncomputable section
namespace Go.Ab.Dirs
open Go Go.Ab

/-- An own row of numbers. -/
def OwnI (σ : St) (b : Nat) (l : List Nat) : Prop := b < σ.next ∧ ∃ f cs, σ.get b = some (.cells f 3 cs) ∧ l.length ≤ cs.length ∧ cs.take l.length = l.map fun x : Nat => AVal.int .i64 (x : Int)
theorem OwnI.fr {σ σ' : St} {b : Nat} {l : List Nat} (h : OwnI σ b l) (hf : Fr σ σ') : OwnI σ' b l := by
  obtain ⟨h1, f, cs, h2, h3⟩ := h
  exact ⟨Nat.lt_of_lt_of_le h1 hf.next, f, cs, by rw [hf.get _ h1]; exact h2, h3⟩
theorem OwnI.ints {σ : St} {b : Nat} {l : List Nat} (h : OwnI σ b l) : IntsI σ (.slice b 0 l.length 1) (l.map Int.ofNat) := by
  obtain ⟨h1, f, cs, h2, h3, h4⟩ := h
  refine ⟨h1, ?_⟩
  simp only [cellsIn, h2, if_true, List.length_map]
  rw [sub_eq.2 ⟨by omega, rfl⟩]
  simp only [List.drop_zero, Nat.mul_one, h4, List.map_map]
  rfl
theorem OwnI.take {σ : St} {b : Nat} {l : List Nat} (h : OwnI σ b l) (k : Nat) : OwnI σ b (l.take k) := by
  obtain ⟨h1, f, cs, h2, h3, h4⟩ := h
  refine ⟨h1, f, cs, h2, ?_, ?_⟩
  · rw [List.length_take]; omega
  · rw [List.length_take, List.map_take, ← h4, List.take_take]
theorem slS_pre {b n k : Nat} (hk : k ≤ n) : slS 1 (.slice b 0 n 1) none (some (.int .i64 (k : Int))) none = some (.slice b 0 k 1) := by
  have : boundsL n n none (some (.int .i64 (k : Int))) none = some (0, k) := by
    simp only [boundsL, toNo, toN, Int.toNat_natCast]
    rw [if_pos ⟨by omega, by omega⟩]
  simp only [slS, this]; simp
theorem lenS_slice {b i n s : Nat} : lenS (.slice b i n s) = some (.int .i64 (n : Int)) := rfl

/-- A path cut back to a node. -/
def popS (u : Int) (path : List Nat) : List Nat := (path.reverse.dropWhile fun p : Nat => decide (¬ (p : Int) = u)).reverse
theorem popS_nil (u : Int) : popS u [] = [] := rfl
theorem popS_snoc (u : Int) (l : List Nat) (p : Nat) : popS u (l ++ [p]) = if (p : Int) = u then l ++ [p] else popS u l := by
  unfold popS
  rw [List.reverse_append]
  simp only [List.reverse_cons, List.reverse_nil, List.nil_append, List.singleton_append, List.dropWhile_cons]
  by_cases h : (p : Int) = u
  · simp [h]
  · simp [h]

section
variable {t : List ND} {tv : AVal}

theorem pop_loop {σ : St} {bp b6 : Nat} {n : ND} {av kv : AVal} (hc : Copy σ b6 n av kv) : ∀ (m : Nat) (path : List Nat) (e : Env) (r : Option (Out × Env × St)), path.length = m → m < 9223372036854775808 → OwnI σ bp path → Ew TS false (.loop L13_2) e σ = r →
    V e 3 = .slice bp 0 path.length 1 → V e 6 = .ptr b6 0 →
    ∃ e', r = some (.exit 2, e', σ) ∧ V e' 3 = .slice bp 0 (popS n.up path).length 1 ∧ (∃ k, popS n.up path = path.take k) ∧ V e' 0 = V e 0 ∧ V e' 4 = V e 4 ∧ V e' 5 = V e 5 ∧ V e' 6 = V e 6 ∧ V e' 35 = V e 35 ∧ V e' 36 = V e 36 ∧ V e' 37 = V e 37
  | 0, path, e, r, hm, hb, ho, hr, h3, h6 => by
    have : path = [] := List.eq_nil_of_length_eq_zero hm
    subst this
    rw [Ew_loop] at hr
    simp only [L13_2, B13_5, sC, reduceIte, Nat.reduceEqDiff, stepOp, undefA, opMov, opPick, opArith, arith, sO, sD, h3, lenS_slice, List.length_nil, Int.natCast_zero, Int.lt_irrefl] at hr
    exact ⟨_, hr.symm, by simp only [V_U, Nat.reduceEqDiff, reduceIte, h3, popS_nil], ⟨0, rfl⟩, by simp only [V_U, Nat.reduceEqDiff, reduceIte], by simp only [V_U, Nat.reduceEqDiff, reduceIte], by simp only [V_U, Nat.reduceEqDiff, reduceIte], by simp only [V_U, Nat.reduceEqDiff, reduceIte], by simp only [V_U, Nat.reduceEqDiff, reduceIte], by simp only [V_U, Nat.reduceEqDiff, reduceIte], by simp only [V_U, Nat.reduceEqDiff, reduceIte]⟩
  | m + 1, path, e, r, hm, hb, ho, hr, h3, h6 => by
    obtain ⟨l, p, rfl⟩ : ∃ l p, path = l ++ [p] := by
      rcases List.eq_nil_or_concat path with h | ⟨l, p, h⟩
      · subst h; simp at hm
      · exact ⟨l, p, by simpa using h⟩
    have hll : (l ++ [p]).length = l.length + 1 := by simp
    have hlm : l.length = m := by omega
    rw [popS_snoc]
    obtain ⟨⟨f, ty, hg⟩, -⟩ := id hc
    have hpos : (0 : Int) < ((l.length + 1 : Nat) : Int) := by omega
    have hw : wrapI .i64 (((l.length + 1 : Nat) : Int) - 1) = (l.length : Int) := by rw [wrap_i64 (by omega) (by omega)]; omega
    obtain ⟨g1, g2⟩ := ho.ints.get (i := l.length) (by simp) (k := .i64)
    simp only [List.getElem_map, List.getElem_append_right (Nat.le_refl _), Nat.sub_self, List.getElem_cons_zero, Int.ofNat_eq_natCast] at g2
    rw [hll] at h3 g1 g2
    rw [Ew_loop] at hr
    by_cases hp : (p : Int) = n.up
    · rw [if_pos hp]
      have hp' := eq_true hp
      simp only [L13_2, B13_5, sC, reduceIte, Nat.reduceEqDiff, stepOp, opMov, opPick, opArith, arith, sO, sD, sM, h3, h6, lenS_slice, hpos, hw, g1, g2, hg, hp'] at hr
      exact ⟨_, hr.symm, by simp only [V_U, Nat.reduceEqDiff, reduceIte, h3, hll], ⟨l.length + 1, by rw [List.take_of_length_le (by simp)]⟩, by simp only [V_U, Nat.reduceEqDiff, reduceIte], by simp only [V_U, Nat.reduceEqDiff, reduceIte], by simp only [V_U, Nat.reduceEqDiff, reduceIte], by simp only [V_U, Nat.reduceEqDiff, reduceIte, h6], by simp only [V_U, Nat.reduceEqDiff, reduceIte], by simp only [V_U, Nat.reduceEqDiff, reduceIte], by simp only [V_U, Nat.reduceEqDiff, reduceIte]⟩
    · rw [if_neg hp]
      have hs := slS_pre (b := bp) (show l.length ≤ l.length + 1 by omega)
      simp only [L13_2, B13_5, B13_6, sC, reduceIte, Nat.reduceEqDiff, stepOp, opMov, opPick, opArith, arith, sO, sD, sM, h3, h6, lenS_slice, hpos, hw, g1, g2, hg, hp, opSlSl_s, Option.map_none, Option.map_some, hs] at hr
      have ho' : OwnI σ bp l := by
        have := ho.take l.length
        rwa [List.take_left'] at this
        rfl
      obtain ⟨e', a1, a2, ⟨k, a3⟩, b0, b4, b5, b6', b35, b36, b37⟩ := pop_loop hc m l _ r hlm (by omega) ho' hr (by simp only [V_U, Nat.reduceEqDiff, reduceIte]) (by simp only [V_U, Nat.reduceEqDiff, reduceIte, h6])
      simp only [V_U, Nat.reduceEqDiff, reduceIte, h6] at b0 b4 b5 b6' b35 b36 b37
      refine ⟨e', a1, a2, ⟨min k l.length, ?_⟩, b0, b4, b5, by rw [b6', h6], b35, b36, b37⟩
      rw [a3, List.take_append_of_le_length (Nat.min_le_right _ _)]
      rcases Nat.le_total k l.length with h | h
      · rw [Nat.min_eq_left h]
      · rw [Nat.min_eq_right h, List.take_of_length_le h, List.take_length]

/-- The second question of a turn: is the node its parent's next child? -/
theorem right_8 {σ : St} {e : Env} {r : Option (Out × Env × St)} {bp b6 bk i : Nat} {n : ND} {av kv : AVal} {p1 cnt : List Nat} (hr : Ew TS false B13_8 e σ = r) (hc : Copy σ b6 n av kv) (ht : TreeI σ tv t) (hk : OwnI σ bk cnt)
    (hlen : cnt.length = t.length) (hu : p1 ≠ [] → ∃ u : Nat, n.up = (u : Int) ∧ u < t.length)
    (h0 : V e 0 = tv) (h3 : V e 3 = .slice bp 0 p1.length 1) (h4 : V e 4 = .slice bk 0 t.length 1) (h5 : V e 5 = .int .i64 (i : Int)) (h6 : V e 6 = .ptr b6 0) :
    ∃ e', r = some (.normal, e', σ) ∧ ((V e' 97 = .bool true ∧ ¬ (p1 ≠ [] ∧ cnt.getD n.up.toNat 0 < (t.getD n.up.toNat ⟨0, [], [], [], 0, []⟩).kids.length ∧ (t.getD n.up.toNat ⟨0, [], [], [], 0, []⟩).kids.getD (cnt.getD n.up.toNat 0) 0 = (i : Int))) ∨
      (V e' 97 = .bool false ∧ (p1 ≠ [] ∧ cnt.getD n.up.toNat 0 < (t.getD n.up.toNat ⟨0, [], [], [], 0, []⟩).kids.length ∧ (t.getD n.up.toNat ⟨0, [], [], [], 0, []⟩).kids.getD (cnt.getD n.up.toNat 0) 0 = (i : Int)))) ∧
      V e' 0 = V e 0 ∧ V e' 3 = V e 3 ∧ V e' 4 = V e 4 ∧ V e' 5 = V e 5 ∧ V e' 6 = V e 6 ∧ V e' 35 = V e 35 ∧ V e' 36 = V e 36 ∧ V e' 37 = V e 37 := by
  obtain ⟨⟨f, ty, hg⟩, -⟩ := id hc
  by_cases hp : p1 = []
  · subst hp
    simp only [B13_8, sC, reduceIte, Nat.reduceEqDiff, stepOp, undefA, opMov, opPick, opArith, arith, sO, sD, sM, h3, lenS_slice, Int.natCast_zero] at hr
    exact ⟨_, hr.symm, .inl ⟨by simp only [V_U, Nat.reduceEqDiff, reduceIte], fun h => h.1 rfl⟩, by simp only [V_U, Nat.reduceEqDiff, reduceIte], by simp only [V_U, Nat.reduceEqDiff, reduceIte, h3, List.length_nil], by simp only [V_U, Nat.reduceEqDiff, reduceIte], by simp only [V_U, Nat.reduceEqDiff, reduceIte], by simp only [V_U, Nat.reduceEqDiff, reduceIte], by simp only [V_U, Nat.reduceEqDiff, reduceIte], by simp only [V_U, Nat.reduceEqDiff, reduceIte], by simp only [V_U, Nat.reduceEqDiff, reduceIte]⟩
  · obtain ⟨u, hu1, hu2⟩ := hu hp
    have hpl : ¬ (p1.length : Int) = 0 := by
      intro h; exact hp (List.eq_nil_of_length_eq_zero (by omega))
    rw [hu1, Int.toNat_natCast]
    rw [hu1] at hg
    have huc : u < cnt.length := by omega
    have hcu : cnt.getD u 0 = cnt[u] := by rw [List.getD_eq_getElem?_getD, List.getElem?_eq_getElem huc, Option.getD_some]
    have htu : t.getD u ⟨0, [], [], [], 0, []⟩ = t[u] := by rw [List.getD_eq_getElem?_getD, List.getElem?_eq_getElem hu2, Option.getD_some]
    rw [hcu, htu]
    obtain ⟨av2, kv2, y1, y2⟩ := ht.get hu2
    have y1 := y1 .i64
    obtain ⟨k1, k2⟩ := hk.ints.get (i := u) (by simpa using huc) (k := .i64)
    simp only [List.getElem_map, Int.ofNat_eq_natCast] at k2
    rw [← hlen] at h4
    have kl := SlI.len y2.kids
    by_cases hb : (t[u].kids.length : Int) ≤ (cnt[u] : Int)
    · have hb' : ¬ cnt[u] < t[u].kids.length := by omega
      simp only [B13_8, sC, reduceIte, Nat.reduceEqDiff, stepOp, undefA, opMov, opPick, opArith, arith, sO, reduceCtorEq, sD, sM, h0, h3, h4, h6, lenS_slice, hpl, hg, k1, k2, y1, y2.f5, y2.l5, kl, hb] at hr
      exact ⟨_, hr.symm, .inl ⟨by simp only [V_U, Nat.reduceEqDiff, reduceIte], fun h => hb' h.2.1⟩, by simp only [V_U, Nat.reduceEqDiff, reduceIte, h0], by simp only [V_U, Nat.reduceEqDiff, reduceIte, h3], by simp only [V_U, Nat.reduceEqDiff, reduceIte, h4], by simp only [V_U, Nat.reduceEqDiff, reduceIte, h5], by simp only [V_U, Nat.reduceEqDiff, reduceIte, h6], by simp only [V_U, Nat.reduceEqDiff, reduceIte], by simp only [V_U, Nat.reduceEqDiff, reduceIte], by simp only [V_U, Nat.reduceEqDiff, reduceIte]⟩
    · have hb' : cnt[u] < t[u].kids.length := by omega
      obtain ⟨m1, m2⟩ := y2.kids.get hb' (k := .i64)
      have hkk : t[u].kids.getD cnt[u] 0 = t[u].kids[cnt[u]] := by rw [List.getD_eq_getElem?_getD, List.getElem?_eq_getElem hb', Option.getD_some]
      rw [hkk]
      by_cases hx : t[u].kids[cnt[u]] = (i : Int)
      · have hx' := eq_true hx
        simp only [B13_8, sC, reduceIte, Nat.reduceEqDiff, stepOp, opMov, opPick, opArith, arith, sO, reduceCtorEq, sD, sM, h0, h3, h4, h5, h6, lenS_slice, hpl, hg, k1, k2, y1, y2.f5, y2.l5, kl, hb, m1, m2, hx'] at hr
        exact ⟨_, hr.symm, .inr ⟨by simp only [V_U, Nat.reduceEqDiff, reduceIte], hp, hb', hx⟩, by simp only [V_U, Nat.reduceEqDiff, reduceIte, h0], by simp only [V_U, Nat.reduceEqDiff, reduceIte, h3], by simp only [V_U, Nat.reduceEqDiff, reduceIte, h4], by simp only [V_U, Nat.reduceEqDiff, reduceIte, h5], by simp only [V_U, Nat.reduceEqDiff, reduceIte, h6], by simp only [V_U, Nat.reduceEqDiff, reduceIte], by simp only [V_U, Nat.reduceEqDiff, reduceIte], by simp only [V_U, Nat.reduceEqDiff, reduceIte]⟩
      · simp only [B13_8, sC, reduceIte, Nat.reduceEqDiff, stepOp, opMov, opPick, opArith, arith, sO, reduceCtorEq, sD, sM, h0, h3, h4, h5, h6, lenS_slice, hpl, hg, k1, k2, y1, y2.f5, y2.l5, kl, hb, m1, m2, hx] at hr
        exact ⟨_, hr.symm, .inl ⟨by simp only [V_U, Nat.reduceEqDiff, reduceIte], fun h => hx h.2.2⟩, by simp only [V_U, Nat.reduceEqDiff, reduceIte, h0], by simp only [V_U, Nat.reduceEqDiff, reduceIte, h3], by simp only [V_U, Nat.reduceEqDiff, reduceIte, h4], by simp only [V_U, Nat.reduceEqDiff, reduceIte, h5], by simp only [V_U, Nat.reduceEqDiff, reduceIte, h6], by simp only [V_U, Nat.reduceEqDiff, reduceIte], by simp only [V_U, Nat.reduceEqDiff, reduceIte], by simp only [V_U, Nat.reduceEqDiff, reduceIte]⟩

theorem putX_set : ∀ (l : List AVal) (i : Nat) (v : AVal), i < l.length → putX i l [v] = some (l.set i v)
  | [], _, _, h => by simp at h
  | x :: l, 0, v, _ => by unfold putX; rw [show putX 0 l [] = some l from by cases l <;> rfl]; rfl
  | x :: l, i + 1, v, h => by unfold putX; rw [putX_set l i v (by simpa using h)]; rfl

/-- The parent has one child more. -/
theorem right_9 {σ σ0 : St} {e : Env} {r : Option (Out × Env × St)} {b6 bk u : Nat} {n : ND} {av kv : AVal} {cnt : List Nat} (hr : Ew TS false B13_9 e σ = r) (hc : Copy σ b6 n av kv) (hk : OwnI σ bk cnt) (hu : n.up = (u : Int)) (huc : u < cnt.length) (hcb : cnt[u] + 1 < 9223372036854775808) (h0 : Fr σ0 σ) (hbk : σ0.next ≤ bk)
    (h4 : V e 4 = .slice bk 0 cnt.length 1) (h6 : V e 6 = .ptr b6 0) :
    ∃ e' σ', r = some (.normal, e', σ') ∧ Fr σ0 σ' ∧ σ'.next = σ.next ∧ (∀ b, b ≠ bk → σ'.get b = σ.get b) ∧ OwnI σ' bk (cnt.set u (cnt[u] + 1)) ∧ V e' 0 = V e 0 ∧ V e' 3 = V e 3 ∧ V e' 4 = V e 4 ∧ V e' 5 = V e 5 ∧ V e' 6 = V e 6 ∧ V e' 35 = V e 35 ∧ V e' 36 = V e 36 ∧ V e' 37 = V e 37 := by
  obtain ⟨⟨f, ty, hg⟩, -⟩ := id hc
  rw [hu] at hg
  obtain ⟨k1, k2⟩ := hk.ints.get (i := u) (by simpa using huc) (k := .i64)
  simp only [List.getElem_map, Int.ofNat_eq_natCast] at k2
  have hw : wrapI .i64 ((cnt[u] : Int) + 1) = ((cnt[u] + 1 : Nat) : Int) := by rw [wrap_i64 (by omega) (by omega)]; omega
  obtain ⟨hlt, f2, cs, hg2, hl, htk⟩ := id hk
  have hst : stS σ 1 (ixp 1 (.slice bk 0 cnt.length 1) u) (.int .i64 ((cnt[u] + 1 : Nat) : Int)) = some (σ.put bk (.cells f2 3 (cs.set u (.int .i64 ((cnt[u] + 1 : Nat) : Int))))) := by
    have hp := putX_set cs u (.int .i64 ((cnt[u] + 1 : Nat) : Int)) (by omega)
    simp only [ixp, stS_ptr, hg2, cells_int, Nat.zero_add, Nat.mul_one, lenL_eq, List.length_cons, List.length_nil, allOne, one_int, Bool.and_true, and_self, if_true, hp]
  simp only [B13_9, sC, reduceIte, Nat.reduceEqDiff, stepOp, undefA, opMov, opArith, arith, sO, opIaSl_s, opLoad_s, opFieldAddr_s, opStore_s, fldA_ptr, ldA_ptr, loadL_none, dropX_4, Nat.zero_add, Bool.false_eq_true, h4, h6, hg, k1, k2, hw, hst] at hr
  refine ⟨_, _, hr.symm, h0.put hbk _, rfl, fun b hb => St.get_put_other _ _ hb, ?_, by simp only [V_U, Nat.reduceEqDiff, reduceIte], by simp only [V_U, Nat.reduceEqDiff, reduceIte], by simp only [V_U, Nat.reduceEqDiff, reduceIte, h4], by simp only [V_U, Nat.reduceEqDiff, reduceIte], by simp only [V_U, Nat.reduceEqDiff, reduceIte, h6], by simp only [V_U, Nat.reduceEqDiff, reduceIte], by simp only [V_U, Nat.reduceEqDiff, reduceIte], by simp only [V_U, Nat.reduceEqDiff, reduceIte]⟩
  refine ⟨hlt, f2, _, St.get_put_same _ _ _, ?_, ?_⟩
  · simp only [List.length_set]; exact hl
  · simp only [List.length_set]
    rw [List.take_set, htk, List.map_set]
end
end Go.Ab.Dirs
end
