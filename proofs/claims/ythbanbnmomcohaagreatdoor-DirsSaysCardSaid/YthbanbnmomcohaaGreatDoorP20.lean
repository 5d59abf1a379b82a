/- dirs.scan: its children, whole. -/
import Derived.Test.YthbanbnmomcohaaGreatDoorP19
set_option maxRecDepth 10000
noncomputable section
namespace Go.Ab.Dirs
open Go Go.Ab

section
variable {σe : St} {bt bl bf bw : Nat} {tv : AVal} {t : List ND}

def scanK (t : List ND) (f k : Nat) : Option Nat := match (if openS (t.getD k dN) then scanF t f k else none) with
    | some w => some w
    | none => firstS (t.getD k dN).data

theorem q46_1 : half1 (half2 body46) = .region false [⟨(some (path 21)), .load none (.t (path 1)), none, .pure⟩, ⟨(some (path 22)), .mov (.t (path 7)), none, .pure⟩, ⟨(some (path 23)), .iaSl 6 (.t (path 21)) (.t (path 22)), none, .pure⟩, ⟨(some (path 24)), .load (some 6) (.t (path 23)), none, .pure⟩, ⟨(some (path 8)), .alloc 36 [.int .u8 0, .str [], .nils, .str [], .int .i64 0, .nils], none, .pure⟩, ⟨none, .store 6 (.t (path 8)) (.t (path 24)), none, .pure⟩] := by kernel_rfl
theorem rest46_eq : rest46 = .seq (.seq (.region false [⟨(some (path 41)), .load none (.t (path 3)), none, .pure⟩]) (.cond (.t (path 41)) .ret .skip)) (.seq (.region false [⟨(some (path 42)), .fieldAddr 3 (.t (path 8)), none, .pure⟩, ⟨(some (path 43)), .load none (.t (path 42)), none, .pure⟩, ⟨(some (path 44)), .range (.t (path 43)), none, .pure⟩]) (.block 2 (.loop L46_1))) := by kernel_rfl
theorem last46_eq : half2 (half2 (half2 L46_2)) = .region false [⟨(some (path 55)), .arith .add (.t (path 17)) (.c (.int .i64 1)), none, .pure⟩, ⟨(some (path 17)), .mov (.t (path 55)), none, .pure⟩] := by kernel_rfl

theorem opRange_s {T : Tab} {x : Opd} {env : Env} {σ : St} {s : List Nat} (hx : x.ev T env = .str s) : opRange T false x env σ = some (.ptr σ.next 0, σ.new (.iter 0 s)) := by
  unfold opRange
  simp only [hx, Bool.false_eq_true, if_false, St.newK_eq]

set_option maxHeartbeats 4000000 in
theorem kids_loop (ht : TreeI σe tv t) (hwf : ∀ n ∈ t, NWF n) {i f : Nat} (hi : i < t.length) (hk : KidsT t)
    (hrec : ∀ k, i < k → k < t.length → ∀ σ, Sc σe σ bt bl bf bw tv none → ∃ σ', Sc σe σ' bt bl bf bw tv (scanF t f k) ∧ Keep σ σ' bf bw ∧ Cw TS false 46 [.int .i64 (k : Int), .ptr bt 0, .ptr bl 0, .ptr bf 0, .ptr bw 0] σ = some (.tuple [], σ'))
    {kv : AVal} (hkv : ∀ σ, Fr σe σ → IntsI σ kv t[i].kids) :
    ∀ (m j : Nat) (σ : St) (e : Env) (r : Option (Out × Env × St)), j + m = t[i].kids.length → Sc σe σ bt bl bf bw tv none → Ew TS false (.loop L46_2) e σ = r →
    V e 1 = .ptr bt 0 → V e 2 = .ptr bl 0 → V e 3 = .ptr bf 0 → V e 4 = .ptr bw 0 → V e 15 = kv → V e 16 = .int .i64 (t[i].kids.length : Int) → V e 17 = .int .i64 (j : Int) →
    ∃ e' σ', Sc σe σ' bt bl bf bw tv (scanL (scanK t f) (t[i].kids.drop j)) ∧ Keep σ σ' bf bw ∧ (r = some (.exit 0, e', σ') ∨ r = some (.ret, e', σ'))
  | 0, j, σ, e, r, hj, hS, hr, h1, h2, h3, h4, h15, h16, h17 => by
    have hlt : ¬ ((j : Int) < (t[i].kids.length : Int)) := by omega
    rw [Ew_loop, L46_2_eq] at hr
    simp only [sC, reduceIte, stepOp, opArith, arith, sO, h16, h17, hlt] at hr
    rw [List.drop_eq_nil_of_le (by omega)]
    exact ⟨_, _, hS, ⟨Nat.le_refl _, fun _ _ _ _ => rfl⟩, .inl hr.symm⟩
  | m + 1, j, σ, e, r, hj, hS, hr, h1, h2, h3, h4, h15, h16, h17 => by
    have hlt : ((j : Int) < (t[i].kids.length : Int)) := by omega
    have hjl : j < t[i].kids.length := by omega
    have hn := (hwf t[i] (List.getElem_mem _)).klen
    have hw : wrapI .i64 ((j : Int) + 1) = ((j + 1 : Nat) : Int) := by rw [wrap_i64 (by omega) (by omega)]; omega
    obtain ⟨k, hz, hik, hkt⟩ := hk i hi t[i].kids[j] (by rw [getD_at hi]; exact List.getElem_mem _)
    obtain ⟨g1, g2⟩ := (hkv σ hS.fr).get hjl (k := .i64)
    rw [hz] at g2
    obtain ⟨av, kv2, x1, x2⟩ := (ht.fr hS.fr).get hkt
    have x1 := x1 .i64
    have o1 := x2.attrs.one
    have o2 := x2.kids.one
    have hcp := Copy.of (f := true) (t := 36) (zs := [.int .u8 0, .str [], .nils, .str [], .int .i64 0, .nils]) x2
    have hf2 : Fr σ ((σ.new (.cells true 36 [.int .u8 0, .str [], .nils, .str [], .int .i64 0, .nils])).put σ.next (.cells true 36 [.int .u8 (t[k].kind : Int), .str t[k].name, av, .str t[k].data, .int .i64 t[k].up, kv2])) := (Fr.new _ _).put (Nat.le_refl _) _
    have x2l := x2.ld
    have hn2 : ((σ.new (.cells true 36 [.int .u8 0, .str [], .nils, .str [], .int .i64 0, .nils])).put σ.next (.cells true 36 [.int .u8 (t[k].kind : Int), .str t[k].name, av, .str t[k].data, .int .i64 t[k].up, kv2])).next = σ.next + 1 := rfl
    generalize e2 : (σ.new (.cells true 36 [.int .u8 0, .str [], .nils, .str [], .int .i64 0, .nils])).put σ.next (.cells true 36 [.int .u8 (t[k].kind : Int), .str t[k].name, av, .str t[k].data, .int .i64 t[k].up, kv2]) = σ2 at hcp hf2 hn2
    obtain ⟨ft, et, gt⟩ := hS.gt
    have hd : scanL (scanK t f) (t[i].kids.drop j) = (match scanK t f k with | some w => some w | none => scanL (scanK t f) (t[i].kids.drop (j + 1))) := by
      rw [List.drop_eq_getElem_cons hjl, scanL, hz, Int.toNat_natCast]
      rfl
    have hK : scanK t f k = (match (if openS t[k] then scanF t f k else none) with | some w => some w | none => firstS t[k].data) := by unfold scanK; rw [getD_at hkt]
    have hwfk := hwf t[k] (List.getElem_mem _)
    have hS2 := hS.next hf2
    rw [hd, hK]
    rw [Ew_loop, L46_2_eq] at hr
    simp only [sC, reduceIte, Nat.reduceEqDiff, stepOp, undefA, opMov, opArith, arith, sO, Nat.reduceAdd, opIaSl_s, opLoad_s, opAlloc, St.newK_eq, opStore_s, stS_ptr, ldA_ptr, St.get_new_same, loadL_none, dropX_zero, putX_all6, cells_agg, allOne, one_int, one_str, List.length_cons, List.length_nil, Bool.and_true, and_true, Bool.false_eq_true, q46_1, h1, h15, h16, h17, hlt, g1, g2, gt, x1, x2l, o1, o2, e2] at hr
    generalize hrq : Ew TS false q46 _ _ = rq at hr
    obtain ⟨ea, σ3, hS3, hk3, rfl, a0, a1, a2, a3, a4, a8, a15, a16, a17⟩ := scan_q (hrec k hik hkt) hwfk hS2 hcp hrq (by simp only [V_U, Nat.reduceEqDiff, reduceIte, h2]) (by simp only [V_U, Nat.reduceEqDiff, reduceIte]) (by simp only [V_U, Nat.reduceEqDiff, reduceIte])
    simp only [V_U, Nat.reduceEqDiff, reduceIte, h1, h2, h3, h4, h15, h16, h17] at a0 a1 a2 a3 a4 a8 a15 a16 a17
    have hb8 : σ3.get σ.next = σ2.get σ.next := hk3.2 _ (by omega) (by have := hS.ef.2; omega) (by have := hS.ew.2; omega)
    obtain ⟨⟨fc, ec, gc⟩, -⟩ := hcp
    rw [← hb8] at gc
    have keep3 : Keep σ σ3 bf bw := ⟨by have := hk3.1; omega, fun b hb x y => by rw [hk3.2 b (by omega) x y, hf2.get b hb]⟩
    cases ho : (if openS t[k] then scanF t f k else none) with
    | some w =>
      rw [ho] at hS3
      obtain ⟨ff, ef, gf⟩ := hS3.gf
      simp only [sC, reduceIte, stepOp, rest46_eq, opLoad_s, ldA_ptr, loadL_none, dropX_zero, a3, gf, Option.isSome_some] at hr
      exact ⟨_, _, hS3, keep3, .inr hr.symm⟩
    | none =>
      rw [ho] at hS3
      obtain ⟨ff, ef, gf⟩ := hS3.gf
      have hR : ∀ env : Env, V env 43 = .str t[k].data → opRange TS false (.t (path 43)) env σ3 = some (.ptr σ3.next 0, σ3.new (.iter 0 t[k].data)) := fun env h => opRange_s h
      simp only [sC, reduceIte, Nat.reduceEqDiff, stepOp, rest46_eq, opLoad_s, opFieldAddr_s, fldA_ptr, ldA_ptr, loadL_none, dropX_zero, dropX_3, Nat.zero_add, a3, a8, gf, gc, Option.isSome_none, hR] at hr
      have hS4 := hS3.next (Fr.new σ3 (.iter 0 t[k].data))
      generalize hrr : Ew TS false (.loop L46_1) _ _ = rr at hr
      obtain ⟨eb, σ5, hS5, hn5, hk5, hh⟩ := rune_loop (bi := σ3.next) hS3.fr.next (by have := hS3.et.2; omega) (by have := hS3.el.2; omega) (by have := hS3.ef.2; omega) (by have := hS3.ew.2; omega) _ _ 0 _ _ rr (Nat.le_refl _) hS4 (St.get_new_same _ _) (Nat.lt_succ_self _) hrr (by simp only [V_U, Nat.reduceEqDiff, reduceIte]) (by simp only [V_U, Nat.reduceEqDiff, reduceIte, a3]) (by simp only [V_U, Nat.reduceEqDiff, reduceIte, a4])
      have hn3 : (σ3.new (.iter 0 t[k].data)).next = σ3.next + 1 := rfl
      have keep5 : Keep σ σ5 bf bw := ⟨by have := keep3.1; omega, fun b hb x y => by
        have h1 := keep3.1
        rw [hk5 b (by omega) x y (by omega), St.get_new_other _ _ (by omega), keep3.2 b hb x y]⟩
      rcases hh with ⟨hf, rfl, v0, v1, v2, v3, v4, v15, v16, v17⟩ | ⟨w, hf, rfl⟩
      · simp only [V_U, Nat.reduceEqDiff, reduceIte, a1, a2, a3, a4, a15, a16, a17] at v0 v1 v2 v3 v4 v15 v16 v17
        rw [hf] at hS5 ⊢
        simp only [sC, reduceIte, stepOp, opMov, opArith, arith, sO, last46_eq, v17, hw] at hr
        obtain ⟨e', σ', hS', hk', hh⟩ := kids_loop ht hwf hi hk hrec hkv m (j + 1) σ5 _ r (by omega) hS5 (by rw [L46_2_eq]; simp only [last46_eq]; exact hr) (by simp only [V_U, Nat.reduceEqDiff, reduceIte, v1]) (by simp only [V_U, Nat.reduceEqDiff, reduceIte, v2]) (by simp only [V_U, Nat.reduceEqDiff, reduceIte, v3]) (by simp only [V_U, Nat.reduceEqDiff, reduceIte, v4]) (by simp only [V_U, Nat.reduceEqDiff, reduceIte, v15]) (by simp only [V_U, Nat.reduceEqDiff, reduceIte, v16]) (by simp only [V_U, Nat.reduceEqDiff, reduceIte])
        exact ⟨e', σ', hS', ⟨Nat.le_trans keep5.1 hk'.1, fun b hb x y => by rw [hk'.2 b (Nat.lt_of_lt_of_le hb keep5.1) x y, keep5.2 b hb x y]⟩, hh⟩
      · rw [hf] at hS5 ⊢
        simp only [] at hr
        exact ⟨_, _, hS5, keep5, .inr hr.symm⟩

theorem look_ok (ht : TreeI σe tv t) (hwf : ∀ n ∈ t, NWF n) (hk : KidsT t) : ∀ (f i : Nat), i < t.length → t.length - i ≤ f → ∀ σ, Sc σe σ bt bl bf bw tv none → ∃ σ', Sc σe σ' bt bl bf bw tv (scanF t f i) ∧ Keep σ σ' bf bw ∧ Cw TS false 46 [.int .i64 (i : Int), .ptr bt 0, .ptr bl 0, .ptr bf 0, .ptr bw 0] σ = some (.tuple [], σ')
  | 0, i, hi, hf, σ, hS => by omega
  | f + 1, i, hi, hf, σ, hS => by
    obtain ⟨av, kv, x1, x2⟩ := (ht.fr hS.fr).get hi
    obtain ⟨av', kv', y1, y2⟩ := ht.get hi
    have x1 := x1 .i64
    have hkv : ∀ σ', Fr σe σ' → IntsI σ' kv t[i].kids := by
      intro σ' hf'
      obtain ⟨av2, kv2, z1, z2⟩ := (ht.fr hf').get hi
      have e1 := x2.l5
      have e2 := y2.l5
      have hfr := (hS.fr)
      have : kv' = kv := by
        have h1 : ldA σ none (fp 5 (ixp 6 tv i)) = some kv' := by
          obtain ⟨cs, c1, c2⟩ := ht
          have c3 := (c1.fr hfr).ix hi (k := .i64)
          obtain ⟨a1, a2, ds, d1, d2, d3⟩ := c2.drop hi
          have c4 := c3.2
          have c5 := (c1.ix hi (k := .i64)).2
          rw [d2, d1.1] at c4 c5
          have q1 := ((c4.fld (off := 5) (by simp)).2).ld
          have q2 := ((c5.fld (off := 5) (by simp)).2).ld
          rw [q1]
          rw [e2] at q2
          exact q2.symm
        rw [e1] at h1
        exact (Option.some.inj h1).symm
      rw [← this]
      exact y2.kids.fr hf'
    have hl := SlI.len (hkv σ hS.fr)
    obtain ⟨ft, et, gt⟩ := hS.gt
    rw [Cw_of fn46 false _ σ rfl]
    simp only [c46, sC, reduceIte, Nat.reduceEqDiff, stepOp, opMov, sO, reduceCtorEq, sF, Nat.reduceAdd, opIaSl_s, opLoad_s, opFieldAddr_s, ldA_ptr, loadL_none, dropX_zero, gt, x1, x2.f5, x2.l5, hl]
    generalize hr : Ew TS false (.loop L46_2) _ _ = r
    have hsc : scanF t (f + 1) i = scanL (scanK t f) t[i].kids := by
      rw [scanF, getD_at hi]; rfl
    obtain ⟨e', σ', hS', hk', rfl | rfl⟩ := kids_loop ht hwf hi hk (fun k hik hkt σ hS => look_ok ht hwf hk f k hkt (by omega) σ hS) hkv t[i].kids.length 0 σ _ r (by omega) hS hr (by simp only [V_U, Nat.reduceEqDiff, reduceIte]) (by simp only [V_U, Nat.reduceEqDiff, reduceIte]) (by simp only [V_U, Nat.reduceEqDiff, reduceIte]) (by simp only [V_U, Nat.reduceEqDiff, reduceIte]) (by simp only [V_U, Nat.reduceEqDiff, reduceIte]) (by simp only [V_U, Nat.reduceEqDiff, reduceIte]) (by simp only [V_U, Nat.reduceEqDiff, reduceIte]; rfl)
    · refine ⟨σ', ?_, hk', by simp only [reduceIte, sF]⟩
      rw [hsc]; exact hS'
    · refine ⟨σ', ?_, hk', by simp only [sF]⟩
      rw [hsc]; exact hS'
end
end Go.Ab.Dirs
end
